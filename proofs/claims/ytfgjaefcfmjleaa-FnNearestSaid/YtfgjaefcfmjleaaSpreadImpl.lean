import Derived.Test.YtfgjaefcfmjleaaSpread
import Derived.Test.YtfgjaefcfmjleaaAllI
import Derived.Deep.RegionHeld3
import Derived.Deep.AppendLies
import Derived.Deep.RegionLaw
namespace Go.Proofs.Ytfgjaefcfmjleaa
open Go.RowKit

/-! ## The program's SpreadPart: a search by a closure that calls itself -/
theorem enterSpreadFar (args : Array Value) (w : World) : (callFunc 161 args).run Try.prog w = .ok (.enter 161 args) w := by kernel_rfl
theorem grown_setCell (w : World) (g : Nat) (v : Value) : w.grownBy (w.setCell ⟨g, 0, none⟩ v) (some g) :=
  ⟨rfl, rfl, rfl, by simp, fun k _ hr => Below.heap_setCell w ⟨g, 0, none⟩ v k (fun e => hr (by rw [e]))⟩

set_option maxRecDepth 100000 in
set_option maxHeartbeats 2000000 in
theorem farClosure_any (p i bc bi bd n cap : Nat) (ao : Option Addr) (xs : List Int) (d : Int) (w : World) (hc : w.cell? ⟨bc, 0, none⟩ = some (.slice ao n cap)) (hx : Ints w (.slice ao n cap) xs) (hi : w.cell? ⟨bi, 0, none⟩ = some (.int .i64 i)) (hd : w.cell? ⟨bd, 0, none⟩ = some (.int .i64 d))
    (hpn : p < n) (hin : i < n) (hcc : ∀ i, i < xs.length → 0 ≤ xs.getD i 0 ∧ xs.getD i 0 ≤ 127) :
    Calls Try.prog 161 #[.int .i64 (p : Int), .pointer (some ⟨bc, 0, none⟩), .pointer (some ⟨bi, 0, none⟩), .pointer (some ⟨bd, 0, none⟩)] w fun e w' => e = .returned (.bool (decide (d ≤ farP xs p i))) ∧ Below w.heap.size w w' := by
  obtain ⟨n', ao1, cap1, b1, o1, HN, he, ha1, hc1, hn1, hm1, HX⟩ := hx.open_
  simp only [Value.slice.injEq] at he
  obtain ⟨rfl, rfl, rfl⟩ := he
  obtain ⟨rfl, hb1⟩ := ha1 (by omega)
  have e1 : w.cell? ⟨b1, o1+p, none⟩ = some (.int .i64 (xs.getD p 0)) := hc1 p hpn
  have e2 : w.cell? ⟨b1, o1+i, none⟩ = some (.int .i64 (xs.getD i 0)) := hc1 i hin
  have hxp := hcc p (by rw [HN.out]; exact hpn)
  have hxi := hcc i (by rw [HN.out]; exact hin)
  have HF := hid (show farP xs (p : Int) (i : Int) = cntI (xorI (xs.getD p 0) (xs.getD i 0)) from rfl)
  generalize xs.getD p 0 = x at e1 hxp HF
  generalize xs.getD i 0 = y at e2 hxi HF
  have hX := xorI_range hxp.1 hxp.2 hxi.1 hxi.2
  clear hc1 ha1 hx hcc
  have hp0 : (0 : Int) ≤ p := by omega
  have hp1 : (p : Int) < n := by omega
  have hi0 : (0 : Int) ≤ i := by omega
  have hi1 : (i : Int) < n := by omega
  go_enter Try.func161, Try.ntmps161
  go_wp2
  go_quiet ((go_at_call 153; exact Calls.quiet_of_same ((count_any (xorI x y) _ hX.1 hX.2).mono fun _ _ h => ⟨h.1, h.2.symm⟩)))
  go_wp2
  go_ret
  exact ⟨ret_bool (by rw [HF.out]), below_drewN (Below.refl _ _) _⟩

/-- The boxes that the search reads: the code, d, itself. -/
def SEnv (w : World) (bb bc bd be n cap : Nat) (ao : Option Addr) (xs : List Int) (d : Int) : Prop :=
  w.cell? ⟨bc, 0, none⟩ = some (.slice ao n cap) ∧ Ints w (.slice ao n cap) xs ∧ w.cell? ⟨bd, 0, none⟩ = some (.int .i64 d) ∧
    w.cell? ⟨be, 0, none⟩ = some (.func (.func 158) #[] #[.pointer (some ⟨bb, 0, none⟩), .pointer (some ⟨bc, 0, none⟩), .pointer (some ⟨bd, 0, none⟩), .pointer (some ⟨be, 0, none⟩)]) ∧
    bb < w.heap.size ∧ bc ≠ bb ∧ bd ≠ bb ∧ be ≠ bb ∧ ((Value.slice ao n cap).ownBlock = none ∨ (Value.slice ao n cap).ownBlock ≠ some bb)
theorem SEnv.kept {w w' : World} {bb bc bd be n cap : Nat} {ao : Option Addr} {xs : List Int} {d : Int} (h : SEnv w bb bc bd be n cap ao xs d) (hg : w.grownBy w' (some bb)) : SEnv w' bb bc bd be n cap ao xs d := by
  obtain ⟨h1, h2, h3, h4, h5, h6, h7, h8, h9⟩ := h
  exact ⟨hg.cell h1 (by simpa using h6), h2.aside hg h9, hg.cell h3 (by simpa using h7), hg.cell h4 (by simpa using h8), Nat.lt_of_lt_of_le h5 hg.size, h6, h7, h8, h9⟩
/-- The box of what has been found. -/
def SBest (w : World) (bb B : Nat) (best : List Int) : Prop :=
  ∃ v, w.cell? ⟨bb, 0, none⟩ = some v ∧ w.frozen? ⟨bb, 0, none⟩ = false ∧ OwnI w B v best ∧ (v.ownBlock = none ∨ v.ownBlock ≠ some bb)
theorem SBest.later {w w' : World} {bb B : Nat} {best : List Int} (h : SBest w bb B best) (hlt : bb < w.heap.size) (hb : Below w.heap.size w w') : SBest w' bb B best := by
  obtain ⟨v, h1, h2, h3, h4⟩ := h
  exact ⟨v, (hb.cell (by exact hlt)).trans h1, (hb.frozen (by exact hlt)).trans h2, h3.later hb, h4⟩
theorem ints_grown {w w' : World} {v : Value} {xs : List Int} {bb : Nat} (h : Ints w v xs) (hg : w.grownBy w' (some bb)) (hne : v.ownBlock = none ∨ v.ownBlock ≠ some bb) : Ints w' v xs := h.aside hg hne
/-- Laid in new memory, a row is none of the boxes that stood. -/
theorem own_new {w' : World} {B bb : Nat} {v : Value} {xs : List Int} (h : OwnI w' B v xs) (hb : bb < B) : v.ownBlock = none ∨ v.ownBlock ≠ some bb := by
  cases hv : v.ownBlock with
  | none => exact .inl rfl
  | some k =>
    right
    intro e
    have := (World.ownsRow.lt h k hv).1
    simp only [Option.some.injEq] at e
    omega
theorem grown_below {w w1 w' : World} {row : Option Nat} (h : w.grownBy w1 row) (hb : Below w.heap.size w1 w') : w.grownBy w' row :=
  ⟨hb.os.trans h.os, hb.tape.trans h.tape, hb.output.trans h.output, Nat.le_trans h.size hb.size, fun k hk hr => (hb.block k hk).trans (h.block k hk hr)⟩
theorem okP_same (xs : List Int) (d : Int) (part : List Int) (i : Nat) : (part.all fun k => decide (d ≤ farP xs k (i : Int))) = okP xs d part (i : Int) := rfl

set_option maxRecDepth 100000 in
set_option maxHeartbeats 8000000 in
theorem extend_any (bb bc bd be n cap B : Nat) (ao : Option Addr) (xs : List Int) (d : Int) (hn12 : n ≤ 12) (hcc : ∀ i, i < xs.length → 0 ≤ xs.getD i 0 ∧ xs.getD i 0 ≤ 127) :
    ∀ (m fr : Nat) (vp : Value) (part best : List Int) (w : World), fr + m = n → SEnv w bb bc bd be n cap ao xs d → SBest w bb B best → B ≤ w.heap.size → Ints w vp part → (vp.ownBlock = none ∨ vp.ownBlock ≠ some bb) → part.length ≤ fr →
      (∀ i, i < part.length → ∃ p : Nat, part.getD i 0 = p ∧ p < n) →
    Calls Try.prog 158 #[vp, .int .i64 fr, .pointer (some ⟨bb, 0, none⟩), .pointer (some ⟨bc, 0, none⟩), .pointer (some ⟨bd, 0, none⟩), .pointer (some ⟨be, 0, none⟩)] w fun e w' =>
      e = .returned (.tuple #[]) ∧ w.grownBy w' (some bb) ∧ SBest w' bb B (spQ xs d m part fr (pickL best part)) := by
  have HCC := hid hcc
  clear hcc
  intro m
  induction m using Nat.strongRecOn with
  | _ m ih =>
    intro fr vp part best w hfm henv hbest hB hp hpb hpl hpn
    have IH := hid ih
    clear ih
    have HR : Hid (spQ xs d (n - fr) part fr (pickL best part) = spQ xs d m part fr (pickL best part)) := hid (by rw [show n - fr = m by omega])
    obtain ⟨R, hRR⟩ : ∃ R, spQ xs d m part fr (pickL best part) = R := ⟨_, rfl⟩
    rw [hRR] at HR ⊢
    clear hRR
    obtain ⟨vb, hb1, hb2, hb3, hb4⟩ := hbest
    obtain ⟨q, ab, capb, bq, oq, HQ, rfl, _, _, _, _, _⟩ := hb3.ints.open_
    obtain ⟨r, ap, capp, bp, op, HP, rfl, _, _, _, _, HPI⟩ := hp.open_
    have HPB := hid hpb
    have HPN := hid hpn
    have HENV := hid henv
    have HBO := hid hb3
    have HBN := hid hb4
    have hbbw : bb < w.heap.size := henv.2.2.2.2.1
    have hfrn : fr ≤ n := by omega
    rw [HP.out] at hpl
    clear hp hpb hpn henv hb3 hb4
    have hf0 : (0 : Int) ≤ fr := by omega
    by_cases hlong : q < r
    · have hlongI : (q : Int) < r := by omega
      have HPK := hid (show pickL best part = part by unfold pickL; rw [HQ.out, HP.out, if_pos hlong])
      rw [HPK.out] at HR
      go_enter Try.func158, Try.ntmps158
      go_wp2_with fail
      refine (CloneI_any _ part _ HPI.out (by rw [HP.out]; omega)).mono ?_
      rintro e w1 ⟨vn, rfl, ho, hb⟩
      obtain ⟨gn, capn, rfl, _, _⟩ := ho.shape HP.out (by omega)
      have c1 := (hb.cell (p := ⟨bb, 0, none⟩) (by exact hbbw)).trans hb1
      have f1 := (hb.frozen (p := ⟨bb, 0, none⟩) (by exact hbbw)).trans hb2
      have HVN := hid (own_new (bb := bb) ho hbbw)
      have HG0 := hid (grown_trans (grown_of_below hb (some bb)) (grown_setCell w1 bb (.slice (some ⟨gn, 0, none⟩) r capn)))
      have HE0 := hid (HENV.out.kept HG0.out)
      have HON := hid ((OwnI.kept ho (grown_setCell w1 bb (.slice (some ⟨gn, 0, none⟩) r capn)) HVN.out).mono hB)
      have HS0 : Hid (SBest (w1.setCell ⟨bb, 0, none⟩ (.slice (some ⟨gn, 0, none⟩) r capn)) bb B part) := hid ⟨_, World.cell?_setCell_same' _ _ _ (by rw [c1]; rfl), by simpa using f1, HON.out, HVN.out⟩
      have HSZ : Hid ((w1.setCell ⟨bb, 0, none⟩ (.slice (some ⟨gn, 0, none⟩) r capn)).heap.size = w1.heap.size) := hid (by simp)
      have hzw : w.heap.size ≤ w1.heap.size := hb.size
      clear ho hb HENV HBO HBN HON HVN
      go_wp2
      clear c1 f1 hb1 hb2
      generalize w1.setCell ⟨bb, 0, none⟩ (.slice (some ⟨gn, 0, none⟩) r capn) = ws at *
      obtain ⟨z, hz⟩ : ∃ z, w1.heap.size = z := ⟨_, rfl⟩
      rw [hz] at HSZ hzw ⊢
      have C1 : Hid ((ws.alloc (.cells #[.int .i64 fr] 3)).cell? ⟨z, 0, none⟩ = some (.int .i64 fr)) := hid (by rw [← HSZ.out]; simp [go_sem])
      have F1 : Hid ((ws.alloc (.cells #[.int .i64 fr] 3)).frozen? ⟨z, 0, none⟩ = false) := hid (by rw [← HSZ.out]; simp [go_sem])
      have Z1 : Hid (z < (ws.alloc (.cells #[.int .i64 fr] 3)).heap.size) := hid (by rw [← HSZ.out]; simp)
      have HB1 : Below ws.heap.size ws (ws.alloc (.cells #[.int .i64 fr] 3)) := (Below.refl _ _).alloc (Nat.le_refl _) _
      have E1 := hid (HE0.out.kept (grown_of_below HB1 (some bb)))
      have B1 := hid (HS0.out.later HE0.out.2.2.2.2.1 HB1)
      have G1 := hid (grown_trans HG0.out (grown_of_below HB1 (some bb)))
      clear hz HB1 HE0 HS0 HG0
      generalize ws.alloc (.cells #[.int .i64 fr] 3) = wa at *
      go_loopw [8] (fun pp wr => ∃ (i bi : Nat) (bs : List Int), fr ≤ i ∧ i ≤ n ∧ pp = .pointer (some ⟨bi, 0, none⟩) ∧ wr.cell? ⟨bi, 0, none⟩ = some (.int .i64 i) ∧ wr.frozen? ⟨bi, 0, none⟩ = false ∧ bb < bi ∧ w.heap.size ≤ bi ∧ bi < wr.heap.size ∧ Hid (SEnv wr bb bc bd be n cap ao xs d) ∧ Hid (SBest wr bb B bs) ∧ Hid (w.grownBy wr (some bb)) ∧ Hid (spQ xs d (n - i) part i bs = R)) (fun pp wr => match pp with | .pointer (some a) => n - (intOf ((wr.cell? a).getD undef)).toNat | _ => 0)
      case atStart => exact ⟨fr, z, _, Nat.le_refl _, by omega, rfl, C1.out, F1.out, by omega, by omega, Z1.out, E1.out, B1.out, G1.out, HR⟩
      case round =>
        obtain ⟨i, bi, bs, hfi, hin, rfl, hci, hfi0, hbbi, hwbi, hbis, HE, HS, HG, HRR⟩ := hrel
        clear C1 F1 Z1 E1 B1 G1 HR
        have e1 := HE.out.1
        have e2 := HE.out.2.2.2.1
        by_cases hlt : i < n
        · obtain ⟨m', hm'⟩ : ∃ m', n - i = m' + 1 := ⟨n - i - 1, by omega⟩
          have HM := hid (show n - (i+1) = m' by omega)
          have HST := hid (show spQ xs d (n - i) part i bs = spQ xs d m' part (i+1) (if okP xs d part (i : Int) then spQ xs d m' (part ++ [(i : Int)]) (i+1) (pickL bs (part ++ [(i : Int)])) else bs) by rw [hm']; rfl)
          have HMI := hid (show i + 1 + m' = n by omega)
          have HPI2 := hid (ints_grown HPI.out HG.out HPB.out)
          have HCL : Hid (∀ w', Below wr.heap.size wr w' → ∀ k, k < part.length → Calls Try.prog 161 (#[.int .i64 (part.getD k 0)] ++ #[.pointer (some ⟨bc, 0, none⟩), .pointer (some ⟨bi, 0, none⟩), .pointer (some ⟨bd, 0, none⟩)]) w' fun e w'' => e = .returned (.bool ((fun k => decide (d ≤ farP xs k (i : Int))) (part.getD k 0))) ∧ Below w'.heap.size w' w'') := hid (by
            intro w' hb' k hk
            obtain ⟨p, hp1, hp2⟩ := HPN.out k hk
            rw [hp1]
            have hEb := HE.out.kept (grown_of_below hb' (some bb))
            exact farClosure_any p i bc bi bd n cap ao xs d w' hEb.1 hEb.2.1 ((hb'.cell (by exact hbis)).trans hci) hEb.2.2.1 hp2 hlt HCC.out)
          have hltI : (i : Int) < n := by omega
          clear hm'
          go_wp2_with fail
          refine (areAllI_any _ part 161 #[.pointer (some ⟨bc, 0, none⟩), .pointer (some ⟨bi, 0, none⟩), .pointer (some ⟨bd, 0, none⟩)] (fun k => decide (d ≤ farP xs k (i : Int))) _ HPI2.out enterSpreadFar HCL.out).mono ?_
          rintro e w2 ⟨rfl, hb2⟩
          rw [okP_same]
          have hci2 := (hb2.cell (p := ⟨bi, 0, none⟩) (by exact hbis)).trans hci
          have hfi2 := (hb2.frozen (p := ⟨bi, 0, none⟩) (by exact hbis)).trans hfi0
          have HE2 := hid (HE.out.kept (grown_of_below hb2 (some bb)))
          have HS2 := hid (HS.out.later HE.out.2.2.2.2.1 hb2)
          have HG2 := hid (grown_trans HG.out (grown_of_below hb2 (some bb)))
          have hbis2 : bi < w2.heap.size := Nat.lt_of_lt_of_le hbis hb2.size
          have HCI0 := hid hci
          clear hb2 HCL HPI2 HE HS HG hci hfi0 e1 e2 hbis
          cases hok : okP xs d part (i : Int) with
          | false =>
            have HRN : Hid (spQ xs d (n - (i+1)) part (i+1) bs = R) := hid (by rw [HM.out, ← HRR.out, HST.out, hok]; rfl)
            clear HST HRR hok HM
            have C3 : Hid ((w2.alloc (.cells #[.int .i64 ((i : Int) + 1)] 3)).cell? ⟨w2.heap.size, 0, none⟩ = some (.int .i64 ((i : Int) + 1))) := hid (by simp [go_sem])
            have F3 : Hid ((w2.alloc (.cells #[.int .i64 ((i : Int) + 1)] 3)).frozen? ⟨w2.heap.size, 0, none⟩ = false) := hid (by simp [go_sem])
            have HB3 : Below w2.heap.size w2 (w2.alloc (.cells #[.int .i64 ((i : Int) + 1)] 3)) := (Below.refl _ _).alloc (Nat.le_refl _) _
            have HE3 := hid (HE2.out.kept (grown_of_below HB3 (some bb)))
            have HS3 := hid (HS2.out.later HE2.out.2.2.2.2.1 HB3)
            have HG3 := hid (grown_trans HG2.out (grown_of_below HB3 (some bb)))
            have Z3 : Hid (w2.heap.size < (w2.alloc (.cells #[.int .i64 ((i : Int) + 1)] 3)).heap.size) := hid (by simp)
            clear HB3 HE2 HS2 HG2
            go_wp2
            go_roundw
            case rel => exact ⟨i+1, w2.heap.size, bs, by omega, by omega, rfl, by simp, F3.out, by omega, by omega, Z3.out, HE3, HS3, HG3, HRN⟩
            case measure =>
              have h0 := HCI0.out
              simp [intOf, h0]
              omega
          | true =>
            have HRN : Hid (spQ xs d (n - (i+1)) part (i+1) (spQ xs d m' (part ++ [(i : Int)]) (i+1) (pickL bs (part ++ [(i : Int)]))) = R) := hid (by rw [HM.out, ← HRR.out, HST.out, hok]; rfl)
            clear HST HRR hok
            have ebe := HE2.out.2.2.2.1
            have hbb2 := HE2.out.2.2.2.2.1
            have hnbe := HE2.out.2.2.2.2.2.2.2.1
            have HPI2 := hid (ints_grown HPI.out HG2.out HPB.out)
            have hbine : bi ≠ bb := by omega
            have hkeep : ∀ w', w2.grownBy w' (some bb) → w'.cell? ⟨be, 0, none⟩ = some (.func (.func 158) #[] #[.pointer (some ⟨bb, 0, none⟩), .pointer (some ⟨bc, 0, none⟩), .pointer (some ⟨bd, 0, none⟩), .pointer (some ⟨be, 0, none⟩)]) ∧ w'.cell? ⟨bi, 0, none⟩ = some (.int .i64 i) ∧ w2.grownBy w' (some bb) := fun w' hg => ⟨hg.cell ebe (by simpa using hnbe), hg.cell hci2 (by simpa using hbine), hg⟩
            have HKEEP := hid hkeep
            have HD0 : Hid (w2.grownBy w2.drew (some bb)) := hid (grown_of_below ((Below.refl _ _).drew) (some bb))
            have hw1 : IntKind.i64.wrap ((i : Int) + 1) = (i : Int) + 1 := IntWalk.i64_in _ (by omega)
            have HPL2 := hid (show (part ++ [(i : Int)]).length ≤ i + 1 by rw [List.length_append, HP.out]; simp; omega)
            have HPN2 := hid (show ∀ k, k < (part ++ [(i : Int)]).length → ∃ p : Nat, (part ++ [(i : Int)]).getD k 0 = p ∧ p < n from fun k hk => by
              rw [List.length_append, List.length_cons, List.length_nil] at hk
              by_cases e : k < part.length
              · rw [getD_snoc_lt e]; exact HPN.out k e
              · have e2 : k = part.length := by omega
                subst e2
                exact ⟨i, getD_snoc_eq _ _, hlt⟩)
            have HIH : Hid (∀ (vA : Value) (wA : World), SEnv wA bb bc bd be n cap ao xs d → SBest wA bb B bs → B ≤ wA.heap.size → Ints wA vA (part ++ [(i : Int)]) → (vA.ownBlock = none ∨ vA.ownBlock ≠ some bb) →
                Calls Try.prog 158 #[vA, .int .i64 ((i : Int) + 1), .pointer (some ⟨bb, 0, none⟩), .pointer (some ⟨bc, 0, none⟩), .pointer (some ⟨bd, 0, none⟩), .pointer (some ⟨be, 0, none⟩)] wA fun e w' =>
                  e = .returned (.tuple #[]) ∧ wA.grownBy w' (some bb) ∧ SBest w' bb B (spQ xs d m' (part ++ [(i : Int)]) (i+1) (pickL bs (part ++ [(i : Int)])))) := hid fun vA wA h1 h2 h3 h4 h5 => by
              have h := IH.out m' (by have := HMI.out; omega) (i+1) vA (part ++ [(i : Int)]) bs wA HMI.out h1 h2 h3 h4 h5 HPL2.out HPN2.out
              rwa [show (((i+1 : Nat)) : Int) = (i : Int) + 1 by omega] at h
            clear hkeep hnbe
            go_wp2
            go_region_held3 (fun w' => w'.cell? ⟨be, 0, none⟩ = some (.func (.func 158) #[] #[.pointer (some ⟨bb, 0, none⟩), .pointer (some ⟨bc, 0, none⟩), .pointer (some ⟨bd, 0, none⟩), .pointer (some ⟨be, 0, none⟩)]) ∧ w'.cell? ⟨bi, 0, none⟩ = some (.int .i64 i) ∧ w2.grownBy w' (some bb))
              (first
                | exact HKEEP.out _ HD0.out
                | exact HKEEP.out _ (grown_of_below (((Below.refl w2.heap.size w2).drew).alloc (by simp) _) (some bb))
                | exact HKEEP.out _ (grown_of_below hbK (some bb))
                | exact HKEEP.out _ (grown_of_below (hbK.alloc hbK.size _) (some bb))
                | exact HKEEP.out _ (grown_of_below hbB (some bb))
                | exact HKEEP.out _ (grown_trans (grown_of_below hbB (some bb)) hgF))
              (first
                | (go_at_call 159; refine (CloneI_any _ part _ (by first | exact ints_grown HPI2.out HD0.out HPB.out | exact ints_grown HPI2.out (grown_of_below (((Below.refl w2.heap.size w2).drew).alloc (by simp) _) (some bb)) HPB.out) (by rw [HP.out]; omega)).mono ?_; rintro e w' ⟨vc, rfl, hoC, hbC⟩; have hbK : Below w2.heap.size w2 w' := by first | exact ((Below.refl w2.heap.size w2).drew).trans hbC | exact (((Below.refl w2.heap.size w2).drew).alloc (by simp) _).trans (hbC.mono (by simp)))
                | (refine step_appendIs _ rfl _ _ rfl w2.heap.size _ part (OwnI.alloc (hoC.mono (Nat.le_refl _)) _) rfl _ (i : Int) rfl (by simp [go_sem]) (by rw [HP.out]; omega) (by have := hbC.size; simp at this ⊢; omega) ?_; intro vA wA hoA hbA; have hbB : Below w2.heap.size w2 wA := (hbK.alloc hbK.size _).trans hbA)
                | (refine step_appendIs _ rfl _ _ rfl w2.heap.size _ part (hoC.mono (by simp)) rfl w2.heap.size (i : Int) rfl ((hbC.cell (by simp)).trans (by simp [go_sem])) (by rw [HP.out]; omega) (by have := hbC.size; simp at this; omega) ?_; intro vA wA hoA hbA; have hbB : Below w2.heap.size w2 wA := hbK.trans hbA)
                | (go_at_call 158; refine (HIH.out vA wA (HE2.out.kept (grown_of_below hbB (some bb))) (HS2.out.later hbb2 hbB) (Nat.le_trans hB (Nat.le_trans HG2.out.size hbB.size)) hoA.ints (own_new hoA hbb2)).mono ?_; rintro e w' ⟨rfl, hgF, hsF⟩))
            all_goals
              have HGF := hid (grown_trans (grown_of_below hbB (some bb)) hgF)
              have hcI : w'.cell? ⟨bi, 0, none⟩ = some (.int .i64 i) := HGF.out.cell hci2 (by simpa using hbine)
              have HE4 := hid (HE2.out.kept HGF.out)
              have HS4 := hid hsF
              have HG4 := hid (grown_trans HG2.out HGF.out)
              have hbb4 : bb < w'.heap.size := Nat.lt_of_lt_of_le hbb2 HGF.out.size
              have hw4 : w.heap.size ≤ w'.heap.size := HG4.out.size
              have C3 : Hid ((w'.alloc (.cells #[.int .i64 ((i : Int) + 1)] 3)).cell? ⟨w'.heap.size, 0, none⟩ = some (.int .i64 ((i : Int) + 1))) := hid (by simp [go_sem])
              have F3 : Hid ((w'.alloc (.cells #[.int .i64 ((i : Int) + 1)] 3)).frozen? ⟨w'.heap.size, 0, none⟩ = false) := hid (by simp [go_sem])
              have HB3 : Below w'.heap.size w' (w'.alloc (.cells #[.int .i64 ((i : Int) + 1)] 3)) := (Below.refl _ _).alloc (Nat.le_refl _) _
              have HE3 := hid (HE4.out.kept (grown_of_below HB3 (some bb)))
              have HS3 := hid (HS4.out.later hbb4 HB3)
              have HG3 := hid (grown_trans HG4.out (grown_of_below HB3 (some bb)))
              have Z3 : Hid (w'.heap.size < (w'.alloc (.cells #[.int .i64 ((i : Int) + 1)] 3)).heap.size) := hid (by simp)
              clear HB3 HE2 HS2 HG2 HE4 HS4 HG4 HGF hgF hsF hbB hbA hoA hbC hoC hbK hw1 hci2 hfi2 ebe
              go_wp2
              go_roundw
              case rel => exact ⟨i+1, w'.heap.size, _, by omega, by omega, rfl, by simp, F3.out, by omega, by omega, Z3.out, HE3, HS3, HG3, HRN⟩
              case measure =>
                have h0 := HCI0.out
                simp [intOf, h0]
                omega
        · have hin2 : i = n := by omega
          have HRB : Hid (bs = R) := hid (by have := HRR.out; rw [hin2, Nat.sub_self] at this; exact this)
          have hltI : ¬ ((i : Int) < n) := by omega
          go_wp2
          go_end0
          exact ⟨rfl, HG.out, by rw [← HRB.out]; exact HS.out⟩

    · have hlongI : ¬ ((q : Int) < r) := by omega
      have HPK := hid (show pickL best part = best by unfold pickL; rw [HQ.out, HP.out, if_neg hlong])
      rw [HPK.out] at HR
      go_enter Try.func158, Try.ntmps158
      go_wp2
      have HS0 : Hid (SBest w bb B best) := hid ⟨_, hb1, hb2, HBO.out, HBN.out⟩
      obtain ⟨z, hz⟩ : ∃ z, w.heap.size = z := ⟨_, rfl⟩
      have C1 : Hid ((w.alloc (.cells #[.int .i64 fr] 3)).cell? ⟨z, 0, none⟩ = some (.int .i64 fr)) := hid (by rw [← hz]; simp [go_sem])
      have F1 : Hid ((w.alloc (.cells #[.int .i64 fr] 3)).frozen? ⟨z, 0, none⟩ = false) := hid (by rw [← hz]; simp [go_sem])
      have Z1 : Hid (z < (w.alloc (.cells #[.int .i64 fr] 3)).heap.size) := hid (by rw [← hz]; simp)
      have HB1 : Below w.heap.size w (w.alloc (.cells #[.int .i64 fr] 3)) := (Below.refl _ _).alloc (Nat.le_refl _) _
      have E1 := hid (HENV.out.kept (grown_of_below HB1 (some bb)))
      have B1 := hid (HS0.out.later hbbw HB1)
      have G1 := hid (grown_of_below HB1 (some bb))
      clear HB1 HENV HS0 hb1 hb2 HBO HBN
      rw [hz] at ⊢
      have hzw : w.heap.size ≤ z := by omega
      clear hz
      generalize w.alloc (.cells #[.int .i64 fr] 3) = wa at *
      go_loopw [8] (fun pp wr => ∃ (i bi : Nat) (bs : List Int), fr ≤ i ∧ i ≤ n ∧ pp = .pointer (some ⟨bi, 0, none⟩) ∧ wr.cell? ⟨bi, 0, none⟩ = some (.int .i64 i) ∧ wr.frozen? ⟨bi, 0, none⟩ = false ∧ bb < bi ∧ w.heap.size ≤ bi ∧ bi < wr.heap.size ∧ Hid (SEnv wr bb bc bd be n cap ao xs d) ∧ Hid (SBest wr bb B bs) ∧ Hid (w.grownBy wr (some bb)) ∧ Hid (spQ xs d (n - i) part i bs = R)) (fun pp wr => match pp with | .pointer (some a) => n - (intOf ((wr.cell? a).getD undef)).toNat | _ => 0)
      case atStart => exact ⟨fr, z, _, Nat.le_refl _, by omega, rfl, C1.out, F1.out, by omega, by omega, Z1.out, E1.out, B1.out, G1.out, HR⟩
      case round =>
        obtain ⟨i, bi, bs, hfi, hin, rfl, hci, hfi0, hbbi, hwbi, hbis, HE, HS, HG, HRR⟩ := hrel
        clear C1 F1 Z1 E1 B1 G1 HR
        have e1 := HE.out.1
        have e2 := HE.out.2.2.2.1
        by_cases hlt : i < n
        · obtain ⟨m', hm'⟩ : ∃ m', n - i = m' + 1 := ⟨n - i - 1, by omega⟩
          have HM := hid (show n - (i+1) = m' by omega)
          have HST := hid (show spQ xs d (n - i) part i bs = spQ xs d m' part (i+1) (if okP xs d part (i : Int) then spQ xs d m' (part ++ [(i : Int)]) (i+1) (pickL bs (part ++ [(i : Int)])) else bs) by rw [hm']; rfl)
          have HMI := hid (show i + 1 + m' = n by omega)
          have HPI2 := hid (ints_grown HPI.out HG.out HPB.out)
          have HCL : Hid (∀ w', Below wr.heap.size wr w' → ∀ k, k < part.length → Calls Try.prog 161 (#[.int .i64 (part.getD k 0)] ++ #[.pointer (some ⟨bc, 0, none⟩), .pointer (some ⟨bi, 0, none⟩), .pointer (some ⟨bd, 0, none⟩)]) w' fun e w'' => e = .returned (.bool ((fun k => decide (d ≤ farP xs k (i : Int))) (part.getD k 0))) ∧ Below w'.heap.size w' w'') := hid (by
            intro w' hb' k hk
            obtain ⟨p, hp1, hp2⟩ := HPN.out k hk
            rw [hp1]
            have hEb := HE.out.kept (grown_of_below hb' (some bb))
            exact farClosure_any p i bc bi bd n cap ao xs d w' hEb.1 hEb.2.1 ((hb'.cell (by exact hbis)).trans hci) hEb.2.2.1 hp2 hlt HCC.out)
          have hltI : (i : Int) < n := by omega
          clear hm'
          go_wp2_with fail
          refine (areAllI_any _ part 161 #[.pointer (some ⟨bc, 0, none⟩), .pointer (some ⟨bi, 0, none⟩), .pointer (some ⟨bd, 0, none⟩)] (fun k => decide (d ≤ farP xs k (i : Int))) _ HPI2.out enterSpreadFar HCL.out).mono ?_
          rintro e w2 ⟨rfl, hb2⟩
          rw [okP_same]
          have hci2 := (hb2.cell (p := ⟨bi, 0, none⟩) (by exact hbis)).trans hci
          have hfi2 := (hb2.frozen (p := ⟨bi, 0, none⟩) (by exact hbis)).trans hfi0
          have HE2 := hid (HE.out.kept (grown_of_below hb2 (some bb)))
          have HS2 := hid (HS.out.later HE.out.2.2.2.2.1 hb2)
          have HG2 := hid (grown_trans HG.out (grown_of_below hb2 (some bb)))
          have hbis2 : bi < w2.heap.size := Nat.lt_of_lt_of_le hbis hb2.size
          have HCI0 := hid hci
          clear hb2 HCL HPI2 HE HS HG hci hfi0 e1 e2 hbis
          cases hok : okP xs d part (i : Int) with
          | false =>
            have HRN : Hid (spQ xs d (n - (i+1)) part (i+1) bs = R) := hid (by rw [HM.out, ← HRR.out, HST.out, hok]; rfl)
            clear HST HRR hok HM
            have C3 : Hid ((w2.alloc (.cells #[.int .i64 ((i : Int) + 1)] 3)).cell? ⟨w2.heap.size, 0, none⟩ = some (.int .i64 ((i : Int) + 1))) := hid (by simp [go_sem])
            have F3 : Hid ((w2.alloc (.cells #[.int .i64 ((i : Int) + 1)] 3)).frozen? ⟨w2.heap.size, 0, none⟩ = false) := hid (by simp [go_sem])
            have HB3 : Below w2.heap.size w2 (w2.alloc (.cells #[.int .i64 ((i : Int) + 1)] 3)) := (Below.refl _ _).alloc (Nat.le_refl _) _
            have HE3 := hid (HE2.out.kept (grown_of_below HB3 (some bb)))
            have HS3 := hid (HS2.out.later HE2.out.2.2.2.2.1 HB3)
            have HG3 := hid (grown_trans HG2.out (grown_of_below HB3 (some bb)))
            have Z3 : Hid (w2.heap.size < (w2.alloc (.cells #[.int .i64 ((i : Int) + 1)] 3)).heap.size) := hid (by simp)
            clear HB3 HE2 HS2 HG2
            go_wp2
            go_roundw
            case rel => exact ⟨i+1, w2.heap.size, bs, by omega, by omega, rfl, by simp, F3.out, by omega, by omega, Z3.out, HE3, HS3, HG3, HRN⟩
            case measure =>
              have h0 := HCI0.out
              simp [intOf, h0]
              omega
          | true =>
            have HRN : Hid (spQ xs d (n - (i+1)) part (i+1) (spQ xs d m' (part ++ [(i : Int)]) (i+1) (pickL bs (part ++ [(i : Int)]))) = R) := hid (by rw [HM.out, ← HRR.out, HST.out, hok]; rfl)
            clear HST HRR hok
            have ebe := HE2.out.2.2.2.1
            have hbb2 := HE2.out.2.2.2.2.1
            have hnbe := HE2.out.2.2.2.2.2.2.2.1
            have HPI2 := hid (ints_grown HPI.out HG2.out HPB.out)
            have hbine : bi ≠ bb := by omega
            have hkeep : ∀ w', w2.grownBy w' (some bb) → w'.cell? ⟨be, 0, none⟩ = some (.func (.func 158) #[] #[.pointer (some ⟨bb, 0, none⟩), .pointer (some ⟨bc, 0, none⟩), .pointer (some ⟨bd, 0, none⟩), .pointer (some ⟨be, 0, none⟩)]) ∧ w'.cell? ⟨bi, 0, none⟩ = some (.int .i64 i) ∧ w2.grownBy w' (some bb) := fun w' hg => ⟨hg.cell ebe (by simpa using hnbe), hg.cell hci2 (by simpa using hbine), hg⟩
            have HKEEP := hid hkeep
            have HD0 : Hid (w2.grownBy w2.drew (some bb)) := hid (grown_of_below ((Below.refl _ _).drew) (some bb))
            have hw1 : IntKind.i64.wrap ((i : Int) + 1) = (i : Int) + 1 := IntWalk.i64_in _ (by omega)
            have HPL2 := hid (show (part ++ [(i : Int)]).length ≤ i + 1 by rw [List.length_append, HP.out]; simp; omega)
            have HPN2 := hid (show ∀ k, k < (part ++ [(i : Int)]).length → ∃ p : Nat, (part ++ [(i : Int)]).getD k 0 = p ∧ p < n from fun k hk => by
              rw [List.length_append, List.length_cons, List.length_nil] at hk
              by_cases e : k < part.length
              · rw [getD_snoc_lt e]; exact HPN.out k e
              · have e2 : k = part.length := by omega
                subst e2
                exact ⟨i, getD_snoc_eq _ _, hlt⟩)
            have HIH : Hid (∀ (vA : Value) (wA : World), SEnv wA bb bc bd be n cap ao xs d → SBest wA bb B bs → B ≤ wA.heap.size → Ints wA vA (part ++ [(i : Int)]) → (vA.ownBlock = none ∨ vA.ownBlock ≠ some bb) →
                Calls Try.prog 158 #[vA, .int .i64 ((i : Int) + 1), .pointer (some ⟨bb, 0, none⟩), .pointer (some ⟨bc, 0, none⟩), .pointer (some ⟨bd, 0, none⟩), .pointer (some ⟨be, 0, none⟩)] wA fun e w' =>
                  e = .returned (.tuple #[]) ∧ wA.grownBy w' (some bb) ∧ SBest w' bb B (spQ xs d m' (part ++ [(i : Int)]) (i+1) (pickL bs (part ++ [(i : Int)])))) := hid fun vA wA h1 h2 h3 h4 h5 => by
              have h := IH.out m' (by have := HMI.out; omega) (i+1) vA (part ++ [(i : Int)]) bs wA HMI.out h1 h2 h3 h4 h5 HPL2.out HPN2.out
              rwa [show (((i+1 : Nat)) : Int) = (i : Int) + 1 by omega] at h
            clear hkeep hnbe
            go_wp2
            go_region_held3 (fun w' => w'.cell? ⟨be, 0, none⟩ = some (.func (.func 158) #[] #[.pointer (some ⟨bb, 0, none⟩), .pointer (some ⟨bc, 0, none⟩), .pointer (some ⟨bd, 0, none⟩), .pointer (some ⟨be, 0, none⟩)]) ∧ w'.cell? ⟨bi, 0, none⟩ = some (.int .i64 i) ∧ w2.grownBy w' (some bb))
              (first
                | exact HKEEP.out _ HD0.out
                | exact HKEEP.out _ (grown_of_below (((Below.refl w2.heap.size w2).drew).alloc (by simp) _) (some bb))
                | exact HKEEP.out _ (grown_of_below hbK (some bb))
                | exact HKEEP.out _ (grown_of_below (hbK.alloc hbK.size _) (some bb))
                | exact HKEEP.out _ (grown_of_below hbB (some bb))
                | exact HKEEP.out _ (grown_trans (grown_of_below hbB (some bb)) hgF))
              (first
                | (go_at_call 159; refine (CloneI_any _ part _ (by first | exact ints_grown HPI2.out HD0.out HPB.out | exact ints_grown HPI2.out (grown_of_below (((Below.refl w2.heap.size w2).drew).alloc (by simp) _) (some bb)) HPB.out) (by rw [HP.out]; omega)).mono ?_; rintro e w' ⟨vc, rfl, hoC, hbC⟩; have hbK : Below w2.heap.size w2 w' := by first | exact ((Below.refl w2.heap.size w2).drew).trans hbC | exact (((Below.refl w2.heap.size w2).drew).alloc (by simp) _).trans (hbC.mono (by simp)))
                | (refine step_appendIs _ rfl _ _ rfl w2.heap.size _ part (OwnI.alloc (hoC.mono (Nat.le_refl _)) _) rfl _ (i : Int) rfl (by simp [go_sem]) (by rw [HP.out]; omega) (by have := hbC.size; simp at this ⊢; omega) ?_; intro vA wA hoA hbA; have hbB : Below w2.heap.size w2 wA := (hbK.alloc hbK.size _).trans hbA)
                | (refine step_appendIs _ rfl _ _ rfl w2.heap.size _ part (hoC.mono (by simp)) rfl w2.heap.size (i : Int) rfl ((hbC.cell (by simp)).trans (by simp [go_sem])) (by rw [HP.out]; omega) (by have := hbC.size; simp at this; omega) ?_; intro vA wA hoA hbA; have hbB : Below w2.heap.size w2 wA := hbK.trans hbA)
                | (go_at_call 158; refine (HIH.out vA wA (HE2.out.kept (grown_of_below hbB (some bb))) (HS2.out.later hbb2 hbB) (Nat.le_trans hB (Nat.le_trans HG2.out.size hbB.size)) hoA.ints (own_new hoA hbb2)).mono ?_; rintro e w' ⟨rfl, hgF, hsF⟩))
            all_goals
              have HGF := hid (grown_trans (grown_of_below hbB (some bb)) hgF)
              have hcI : w'.cell? ⟨bi, 0, none⟩ = some (.int .i64 i) := HGF.out.cell hci2 (by simpa using hbine)
              have HE4 := hid (HE2.out.kept HGF.out)
              have HS4 := hid hsF
              have HG4 := hid (grown_trans HG2.out HGF.out)
              have hbb4 : bb < w'.heap.size := Nat.lt_of_lt_of_le hbb2 HGF.out.size
              have hw4 : w.heap.size ≤ w'.heap.size := HG4.out.size
              have C3 : Hid ((w'.alloc (.cells #[.int .i64 ((i : Int) + 1)] 3)).cell? ⟨w'.heap.size, 0, none⟩ = some (.int .i64 ((i : Int) + 1))) := hid (by simp [go_sem])
              have F3 : Hid ((w'.alloc (.cells #[.int .i64 ((i : Int) + 1)] 3)).frozen? ⟨w'.heap.size, 0, none⟩ = false) := hid (by simp [go_sem])
              have HB3 : Below w'.heap.size w' (w'.alloc (.cells #[.int .i64 ((i : Int) + 1)] 3)) := (Below.refl _ _).alloc (Nat.le_refl _) _
              have HE3 := hid (HE4.out.kept (grown_of_below HB3 (some bb)))
              have HS3 := hid (HS4.out.later hbb4 HB3)
              have HG3 := hid (grown_trans HG4.out (grown_of_below HB3 (some bb)))
              have Z3 : Hid (w'.heap.size < (w'.alloc (.cells #[.int .i64 ((i : Int) + 1)] 3)).heap.size) := hid (by simp)
              clear HB3 HE2 HS2 HG2 HE4 HS4 HG4 HGF hgF hsF hbB hbA hoA hbC hoC hbK hw1 hci2 hfi2 ebe
              go_wp2
              go_roundw
              case rel => exact ⟨i+1, w'.heap.size, _, by omega, by omega, rfl, by simp, F3.out, by omega, by omega, Z3.out, HE3, HS3, HG3, HRN⟩
              case measure =>
                have h0 := HCI0.out
                simp [intOf, h0]
                omega
        · have hin2 : i = n := by omega
          have HRB : Hid (bs = R) := hid (by have := HRR.out; rw [hin2, Nat.sub_self] at this; exact this)
          have hltI : ¬ ((i : Int) < n) := by omega
          go_wp2
          go_end0
          exact ⟨rfl, HG.out, by rw [← HRB.out]; exact HS.out⟩

end Go.Proofs.Ytfgjaefcfmjleaa
