/-
  Rest4: the reference's table of least costs (l4Rest).
-/
import Derived.Test.YtgbnoljmmenlbaaTour2
import Derived.Test.YtgbnoljmmenlbaaOrdCost
import Derived.OwnWalk
import Derived.Deep.CutBlock
import Derived.Deep.CutRange
import Derived.Deep.DeepCutAuto
namespace Go.Proofs.Ytgbnoljmmenlbaa
open Go.RowKit

/-! ## [][10]int: a flat list of integers, ten for each element -/
def Own10 (w : World) (B : Nat) (v : Value) (fs : List Int) : Prop :=
  ∃ n, fs.length = 10 * n ∧ w.ownsRow B 32 10 v n (fs.map (Value.int .i64))
theorem Own10.len {w : World} {B n cap : Nat} {ao : Option Addr} {fs : List Int} (h : Own10 w B (.slice ao n cap) fs) : fs.length = 10 * n := by
  obtain ⟨m, hm, h⟩ := h
  rcases h.2 with ⟨hv, h0⟩ | ⟨g, cap, cur, hv, hb, hg, _⟩
  · cases hv
    rw [hm, h0]
  · cases hv
    exact hm
theorem Own10.row {w : World} {B g n cap : Nat} {fs : List Int} (h : Own10 w B (.slice (some ⟨g, 0, none⟩) n cap) fs) : w.ownsRow B 32 10 (.slice (some ⟨g, 0, none⟩) n cap) n (fs.map (Value.int .i64)) := by
  have hl := Own10.len h
  obtain ⟨m, hm, h⟩ := h
  rw [show m = n by omega] at h
  exact h
theorem Own10.cell {w : World} {B g n cap : Nat} {fs : List Int} (h : Own10 w B (.slice (some ⟨g, 0, none⟩) n cap) fs) {p : Nat} (hp : p < 10 * n) :
    w.cell? ⟨g, p, none⟩ = some (.int .i64 (fs.getD p 0)) := by
  have hl := Own10.len h
  rw [World.ownsRow.cellAt (n := n) (cap := cap) h.row p (by omega)]
  simp [List.getD, List.getElem?_eq_getElem (show p < fs.length by omega)]
theorem Own10.free {w : World} {B g n cap : Nat} {fs : List Int} (h : Own10 w B (.slice (some ⟨g, 0, none⟩) n cap) fs) (p : Nat) :
    w.frozen? ⟨g, p, none⟩ = false := World.ownsRow.frozenAt (n := n) (cap := cap) h.row p
theorem Own10.set {w : World} {B g n cap : Nat} {fs ys : List Int} (h : Own10 w B (.slice (some ⟨g, 0, none⟩) n cap) fs) (i : Nat) (u : Int) (e : fs.set i u = ys) :
    Own10 (w.setCell ⟨g, i, none⟩ (.int .i64 u)) B (.slice (some ⟨g, 0, none⟩) n cap) ys ∧ w.grownBy (w.setCell ⟨g, i, none⟩ (.int .i64 u)) (some g) := by
  have hl := Own10.len h
  obtain ⟨h1, h2⟩ := World.ownsRow.stored (n := n) (cap := cap) h.row i (.int .i64 u)
  refine ⟨⟨n, ?_, ?_⟩, h2⟩
  · rw [← e, List.length_set, hl]
  · rw [← e, List.map_set]
    exact h1
theorem Own10.later {w w' : World} {B : Nat} {v : Value} {fs : List Int} (h : Own10 w B v fs) (hb : Below w.heap.size w w') : Own10 w' B v fs := by
  obtain ⟨m, hm, h⟩ := h
  exact ⟨m, hm, World.ownsRow.kept h (grown_of_below hb none) (by cases v.ownBlock <;> simp)⟩
theorem Own10.lt {w : World} {B g n cap : Nat} {fs : List Int} (h : Own10 w B (.slice (some ⟨g, 0, none⟩) n cap) fs) : B ≤ g ∧ g < w.heap.size := World.ownsRow.lt h.row g rfl

def agg10 (f : Nat → Int) : Value := .agg #[.int .i64 (f 0), .int .i64 (f 1), .int .i64 (f 2), .int .i64 (f 3), .int .i64 (f 4), .int .i64 (f 5), .int .i64 (f 6), .int .i64 (f 7), .int .i64 (f 8), .int .i64 (f 9)]
theorem infoTen : (Try.prog.info? 32).map (fun i => (i.zero, i.size, i.bytes)) = some (some (agg10 fun _ => 0), 10, 80) := by kernel_rfl
theorem made10 {w : World} {B g n cap : Nat} (h : w.ownsRow B 32 10 (.slice (some ⟨g, 0, none⟩) n cap) n (madeCells (agg10 fun _ => 0).cells (n * 10)).toList) : Own10 w B (.slice (some ⟨g, 0, none⟩) n cap) (List.replicate (10 * n) 0) := by
  refine ⟨n, by simp, ?_⟩
  have e2 : (madeCells (agg10 fun _ => 0).cells (n * 10)).toList = (List.replicate (10 * n) (0 : Int)).map (Value.int .i64) := by
    apply List.ext_getElem?
    intro i
    by_cases hi : i < n * 10
    · have e3 : (madeCells (agg10 fun _ => 0).cells (n * 10)).toList[i]? = some (.int .i64 0) := by
        simp only [madeCells, Array.getElem?_toList, Array.getElem?_map]
        have : i % 10 < 10 := Nat.mod_lt _ (by omega)
        generalize hr : i % 10 = r at this
        match r, this with
        | 0, _ => simp [hi, hr, agg10, Value.cells]
        | 1, _ => simp [hi, hr, agg10, Value.cells]
        | 2, _ => simp [hi, hr, agg10, Value.cells]
        | 3, _ => simp [hi, hr, agg10, Value.cells]
        | 4, _ => simp [hi, hr, agg10, Value.cells]
        | 5, _ => simp [hi, hr, agg10, Value.cells]
        | 6, _ => simp [hi, hr, agg10, Value.cells]
        | 7, _ => simp [hi, hr, agg10, Value.cells]
        | 8, _ => simp [hi, hr, agg10, Value.cells]
        | 9, _ => simp [hi, hr, agg10, Value.cells]
      rw [e3]
      simp [show i < 10 * n by omega]
    · rw [List.getElem?_eq_none (by simp [madeCells]; omega), List.getElem?_eq_none (by simp; omega)]
  rw [← e2]
  exact h

/-! ## the table, filled as far as m -/
def restL (R : Nat → Int) (N m : Nat) : List Int := (List.range N).map fun j => if j < m then R j else 0
theorem restL_get (R : Nat → Int) {N m j : Nat} (h : j < N) : (restL R N m).getD j 0 = if j < m then R j else 0 := by simp [restL, List.getD, h]
theorem restL_set (R : Nat → Int) {N m : Nat} : (restL R N m).set m (R m) = restL R N (m+1) := by
  apply List.ext_getElem?
  intro j
  rw [List.getElem?_set]
  by_cases hj : j < N
  · by_cases e : m = j
    · subst e; simp [restL, hj]
    · have h2 : j < m + 1 ↔ j < m := by omega
      simp [restL, hj, e, h2]
  · have : ¬ m = j ∨ ¬ m < N := by omega
    by_cases e : m = j
    · subst e; simp [restL, hj]
    · simp [restL, hj, e]
theorem restL_zero (R : Nat → Int) (N : Nat) : restL R N 0 = List.replicate N 0 := by
  apply List.ext_getElem?
  intro j
  by_cases h : j < N <;> simp [restL, h]
def restR (base : Int → Int) (j : Nat) : Int := restS dd base (j / 10) ((j % 10 : Nat) : Int)
theorem restR_at (base : Int → Int) {s a : Nat} (ha : a < 10) : restR base (s * 10 + a) = restS dd base s a := by
  unfold restR
  rw [show (s * 10 + a) / 10 = s by omega, show (s * 10 + a) % 10 = a by omega]
theorem restS_range (back : Int) (s : Nat) (a : Int) : 0 ≤ restS dd (baseB back) s a ∧ restS dd (baseB back) s a ≤ 77 := by
  have h1 := rest_nonneg dd (fun a b => (dd_range a b).1) (baseB back) (fun a => (baseB_range back a).1) (digO s).length (digO s) a rfl
  have h2 := rest_bound dd (fun a b => (dd_range a b).1) (fun a b => (dd_range a b).2) (baseB back) (fun a => (baseB_range back a).1) (fun a => (baseB_range back a).2) (digO s).length (digO s) a rfl
  have h3 := digO_len s
  unfold restS
  omega
theorem bestS_range (back : Int) (s : Nat) (a : Int) (k : Nat) : -1 ≤ bestS dd (baseB back) s a k ∧ bestS dd (baseB back) s a k ≤ 1000 := by
  induction k with
  | zero =>
    have := baseB_range back a
    simp only [bestS, List.range_zero, List.filter_nil, List.map_nil, List.foldl_nil]
    split <;> omega
  | succ k ih =>
    cases h : s.testBit k with
    | false => rw [bestS_no dd h]; exact ih
    | true =>
      rw [bestS_yes dd h]
      have h1 := dd_range a k
      have h2 := restS_range back (s ^^^ 2 ^ k) k
      unfold lesser
      split <;> omega
theorem xor_less : ∀ {k s : Nat}, s.testBit k = true → s ^^^ 2 ^ k < s := by
  intro k
  induction k with
  | zero =>
    intro s h
    have h1 : (s ^^^ 2 ^ 0) / 2 = s / 2 := by rw [Nat.xor_div_two]; simp
    have h2 : (s ^^^ 2 ^ 0).testBit 0 = false := by rw [Nat.testBit_xor, h]; simp
    rw [Nat.testBit_zero, decide_eq_false_iff_not] at h2
    rw [Nat.testBit_zero, decide_eq_true_eq] at h
    omega
  | succ k ih =>
    intro s h
    have h1 : (s ^^^ 2 ^ (k + 1)) / 2 = s / 2 ^^^ 2 ^ k := by
      rw [Nat.xor_div_two, Nat.pow_succ, Nat.mul_div_cancel _ (by omega)]
    rw [Nat.testBit_succ] at h
    have := ih h
    omega
theorem bit_one {s k : Nat} (h : s < 4611686018427387904) : (bits .and .i64 ((s : Int) / 2 ^ k) 1 == 1) = s.testBit k := by
  have hd : (s : Int) / 2 ^ k = ((s / 2 ^ k : Nat) : Int) := by simp
  have hlt : s / 2 ^ k < 4611686018427387904 := Nat.lt_of_le_of_lt (Nat.div_le_self _ _) h
  rw [hd, Nat.testBit_eq_decide_div_mod_eq]
  generalize s / 2 ^ k = a at hlt
  have e1 : (BitVec.ofInt 64 (a : Int)) = BitVec.ofNat 64 a := by simp
  have e : bits .and .i64 (a : Int) 1 = ((a % 2 : Nat) : Int) := by
    show IntKind.i64.wrap (((BitVec.ofInt 64 (a : Int)) &&& (BitVec.ofInt 64 1)).toNat : Int) = _
    rw [e1, BitVec.toNat_and, BitVec.toNat_ofNat, Nat.mod_eq_of_lt (by omega)]
    rw [show (BitVec.ofInt 64 1).toNat = 1 from rfl, Nat.and_one_is_mod]
    exact IntWalk.i64_in _ (by omega)
  rw [e, Bool.eq_iff_iff]
  simp
  omega

/-- Block g holds the table of least costs. -/
def RestT (w : World) (g : Nat) (base : Int → Int) : Prop := ∀ s a : Nat, s < 1024 → a < 10 → w.cell? ⟨g, s * 10 + a, none⟩ = some (.int .i64 (restS dd base s a))
theorem RestT.later {w w' : World} {g : Nat} {base : Int → Int} (h : RestT w g base) (hg : g < w.heap.size) (hb : Below w.heap.size w w') : RestT w' g base :=
  fun s a hs ha => (hb.cell (by exact hg)).trans (h s a hs ha)

set_option maxRecDepth 100000 in
set_option maxHeartbeats 4000000 in
theorem l4Rest_any (back : Int) (hback : back = -1 ∨ dig9 back = true) (w : World) :
    Calls Try.prog 32 #[.int .i64 back] w fun e w' => ∃ g, e = .returned (.slice (some ⟨g, 0, none⟩) 1024 1024) ∧ RestT w' g (baseB back) ∧ g < w'.heap.size ∧ Below w.heap.size w w' := by
  have HBK := hid hback
  clear hback
  obtain ⟨i0, hi, hz0, hz1, hz2⟩ := info_parts infoTen
  go_enter Try.func32, Try.ntmps32
  go_wp2_with (first | (at_make; refine wpList_make_full _ rfl (.const (.int .i64 1024)) (.const (.int .i64 1024)) 52 rfl w.heap.size 32 i0 (agg10 fun _ => 0) 10 Try.underlying52 hi hz0 hz1 .i64 .i64 1024 1024 1024 rfl rfl rfl rfl (by rw [hz2]; omega) (by unfold maxLen; omega) (Nat.le_refl _) ?_; intro w1 hown hgrow))
  have HO0 := hid (made10 hown)
  have HB0 := hid (Below.of_grown hgrow)
  rw [show 10 * 1024 = 10240 from rfl, ← restL_zero (restR (baseB back))] at HO0
  clear hown hgrow hi hz0 hz1 hz2
  generalize hN : 10240 = N at *
  have HN := hid hN.symm
  clear hN
  obtain ⟨z, hz⟩ : ∃ z, w.heap.size = z := ⟨_, rfl⟩
  have HZ := hid hz
  rw [hz] at HO0
  simp only [hz]
  clear hz
  go_loopw [4, 5, 6, 7, 8] (fun ss _ _ _ _ wr => ∃ s : Nat, s ≤ 1024 ∧ ss = .int .i64 s ∧ Hid (Own10 wr z (.slice (some ⟨z, 0, none⟩) 1024 1024) (restL (restR (baseB back)) N (s * 10))) ∧ Hid (Below w.heap.size w wr)) (fun ss _ _ _ _ _ => 1024 - (intOf ss).toNat)
  case atStart => exact ⟨0, by omega, rfl, HO0, HB0⟩
  case round =>
    clear HO0 HB0
    obtain ⟨s, hs, rfl, HO1, HB1⟩ := hrel
    by_cases hlt : s < 1024
    · have hs0 : (0 : Int) ≤ s := by omega
      have hsI : (s : Int) < 1024 := by omega
      go_wp2
      go_loopw [5, 6, 7, 8] (fun aa _ _ _ wr2 => ∃ a : Nat, a ≤ 10 ∧ aa = .int .i64 a ∧ Hid (Own10 wr2 z (.slice (some ⟨z, 0, none⟩) 1024 1024) (restL (restR (baseB back)) N (s * 10 + a))) ∧ Hid (Below w.heap.size w wr2)) (fun aa _ _ _ _ => 10 - (intOf aa).toNat)
      case atStart => exact ⟨0, by omega, rfl, HO1, HB1⟩
      case round =>
        clear HO1 HB1
        obtain ⟨a, ha, rfl, HO2, HB2⟩ := hrel
        by_cases hat : a < 10
        · have ha0 : (0 : Int) ≤ a := by omega
          have haI : (a : Int) < 10 := by omega
          have HZB := hid (show bestS dd (baseB back) s a 0 = if s = 0 then baseB back a else -1 from rfl)
          go_upto_if 19 with fail
          go_cut [6] from 20 to 24 (fun bb wc => bb = .int .i64 (bestS dd (baseB back) s a 0) ∧ Hid (Own10 wc z (.slice (some ⟨z, 0, none⟩) 1024 1024) (restL (restR (baseB back)) N (s * 10 + a))) ∧ Hid (Below w.heap.size w wc))
          case first =>
            by_cases h0 : s = 0
            · subst h0
              rcases HBK.out with h | h
              · subst h
                go_wp2
                go_meet
                exact ⟨int_eq (by rw [HZB.out]; rfl), HO2, HB2⟩
              · obtain ⟨q, rfl, hq⟩ := nat_digit h
                have HBB := hid (show baseB (q : Int) (a : Int) = farI (digitC (a : Int)) (digitC (q : Int)) by unfold baseB; rw [if_neg (by omega)]; rfl)
                have hq0 : (0 : Int) ≤ q := by omega
                go_wp2_with fail
                refine (l4Digits_any _ _ _ (inB_mk (by omega) (by omega)) (inB_mk (by omega) (by omega))).mono ?_
                rintro e w2 ⟨rfl, hb2⟩
                have HO4 := hid (HO2.out.later hb2)
                have HB4 := hid (HB2.out.trans (hb2.mono HB2.out.size))
                go_wp2
                go_meet
                exact ⟨int_eq (by rw [HZB.out]; simp [HBB.out]), HO4, HB4⟩
            · have hsz : ((s : Int) == 0) = false := beq_eq_false_iff_ne.2 (by omega)
              go_wp2
              go_meet
              exact ⟨int_eq (by rw [HZB.out, if_neg h0]), HO2, HB2⟩
          case rest =>
            obtain ⟨rfl, HO3, HB3⟩ := hcut
            clear HO2 HB2 HZB
            go_wp2
            go_loopw [6, 7, 8] (fun bb kk _ wr3 => ∃ k : Nat, k ≤ 10 ∧ kk = .int .i64 k ∧ bb = .int .i64 (bestS dd (baseB back) s a k) ∧ Hid (Own10 wr3 z (.slice (some ⟨z, 0, none⟩) 1024 1024) (restL (restR (baseB back)) N (s * 10 + a))) ∧ Hid (Below w.heap.size w wr3)) (fun _ kk _ _ => 10 - (intOf kk).toNat)
            case atStart => exact ⟨0, by omega, rfl, rfl, HO3, HB3⟩
            case round =>
              clear HO3 HB3
              obtain ⟨k, hk, rfl, rfl, HO4, HB4⟩ := hrel
              by_cases hkt : k < 10
              · have hk0 : (0 : Int) ≤ k := by omega
                have hkI : (k : Int) < 10 := by omega
                have hk64 : (k : Int) < 64 := by omega
                have HBIT := hid (bit_one (s := s) (k := k) (by omega))
                have HYES := hid (bestS_yes dd (base := baseB back) (s := s) (a := (a : Int)) (k := k))
                have HNO := hid (bestS_no dd (base := baseB back) (s := s) (a := (a : Int)) (k := k))
                have hbr := bestS_range back s a k
                generalize bestS dd (baseB back) s a k = bb at *
                cases hb : (bits .and .i64 ((s : Int) / 2 ^ k) 1 == 1) with
                | false =>
                  have hbt : s.testBit k = false := by have := HBIT.out; rw [hb] at this; exact this.symm
                  have HE := hid (HNO.out hbt)
                  clear HYES HNO HBIT hbt
                  go_wp2
                  go_roundw
                  case rel => exact ⟨k+1, by omega, by go_num, int_eq HE.out.symm, HO4, HB4⟩
                  case measure => simp [intOf]; omega
                | true =>
                  have hbt : s.testBit k = true := by have := HBIT.out; rw [hb] at this; exact this.symm
                  have hless := xor_less hbt
                  have HE := hid (HYES.out hbt)
                  have hx1 := xor_shl (s := s) (x := k) (by omega) (by omega)
                  have hx2 : bits .xor .i64 (s : Int) (wrap64 ((2 : Int) ^ k)) = ((s ^^^ 2 ^ k : Nat) : Int) := by rw [← IntWalk.i64_left]; exact hx1
                  have hcell := HO4.out.cell (p := (s ^^^ 2 ^ k) * 10 + k) (by omega)
                  rw [restL_get _ (by rw [HN.out]; omega), if_pos (by omega), restR_at _ hkt] at hcell
                  have hrr := restS_range back (s ^^^ 2 ^ k) k
                  have HEE := hid (show bestS dd (baseB back) s a (k+1) = lesser bb (farI (digitC (a : Int)) (digitC (k : Int)) + restS dd (baseB back) (s ^^^ 2 ^ k) k) from HE.out)
                  have hfr := farI_range (digitC (a : Int)) (digitC (k : Int))
                  have HCALL := hid (fun w' (hb : Below wr.heap.size wr w') => l4Digits_from wr (a : Int) (k : Int) w' (inB_mk (by omega) (by omega)) (inB_mk (by omega) (by omega)) hb)
                  generalize restS dd (baseB back) (s ^^^ 2 ^ k) k = r at *
                  generalize farI (digitC (a : Int)) (digitC (k : Int)) = f at *
                  generalize s ^^^ 2 ^ k = so at *
                  have hso0 : (0 : Int) ≤ so := by omega
                  have hsoI : (so : Int) < 1024 := by omega
                  have hw1 : IntKind.i64.wrap (f + r) = f + r := IntWalk.i64_in _ (by omega)
                  have hzl := HO4.out.lt.2
                  have hbw : Below wr.heap.size wr wr.drew := (Below.refl _ _).drew
                  clear HYES HNO HBIT hbt HE
                  go_wp2
                  go_region_held3 (fun w' => w'.cell? ⟨z, so * 10 + k, none⟩ = some (.int .i64 r) ∧ Below wr.heap.size wr w') (first | exact ⟨(hb'.cell (by exact hzl)).trans hcell, hb'⟩ | exact ⟨hcell, hbw⟩)
                    (first
                      | (go_at_call 37; refine (HCALL.out _ (by assumption)).mono ?_; rintro e w' ⟨rfl, hb'⟩))
                  have HO5 := hid (HO4.out.later hb')
                  have HB5 := hid (HB4.out.trans (hb'.mono HB4.out.size))
                  clear hb' HO4 HB4 HCALL hx1 hx2 hcell
                  go_wp2
                  all_goals
                    go_roundw
                    case rel => exact ⟨k+1, by omega, by go_num, int_eq (by rw [HEE.out]; unfold lesser; split <;> omega), HO5, HB5⟩
                    case measure => simp [intOf]; omega
              · obtain rfl : k = 10 := by omega
                have hbest := bestS_all dd (baseB back) s hlt (a : Int)
                rw [hbest]
                have hcell := HO4.out.cell (p := s * 10 + a) (by omega)
                have hfree := HO4.out.free (s * 10 + a)
                have hset := restL_set (restR (baseB back)) (N := N) (m := s * 10 + a)
                rw [restR_at _ hat] at hset
                obtain ⟨hst, hgr⟩ := HO4.out.set (s * 10 + a) _ hset
                have HST := hid hst
                have HGR := hid (HB4.out.setCell (p := ⟨z, s * 10 + a, none⟩) (by rw [HZ.out]; exact Nat.le_refl _) (.int .i64 (restS dd (baseB back) s a)))
                clear hst hgr hset hbest HO4 HB4
                generalize restS dd (baseB back) s a = r at *
                generalize (restL (restR (baseB back)) N (s * 10 + a)).getD (s * 10 + a) 0 = old at *
                go_wp2
                go_roundw
                case rel => exact ⟨a+1, by omega, by go_num, HST, HGR⟩
                case measure => simp [intOf]; omega
        · obtain rfl : a = 10 := by omega
          rw [show s * 10 + 10 = (s + 1) * 10 by omega] at HO2
          go_wp2
          go_roundw
          case rel => exact ⟨s+1, by omega, by go_num, HO2, HB2⟩
          case measure => simp [intOf]; omega
    · obtain rfl : s = 1024 := by omega
      have HRT : Hid (RestT wr z (baseB back)) := hid fun s a hs ha => by
        have h := HO1.out.cell (p := s * 10 + a) (by omega)
        rw [restL_get _ (by rw [HN.out]; omega), if_pos (by omega), restR_at _ ha] at h
        exact h
      have hzl := HO1.out.lt.2
      clear HO1
      go_wp2
      go_ret
      exact ⟨z, rfl, HRT.out, hzl, HB1.out⟩
end Go.Proofs.Ytgbnoljmmenlbaa
