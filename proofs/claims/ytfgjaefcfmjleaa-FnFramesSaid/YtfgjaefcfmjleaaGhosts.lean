import Derived.Test.YtfgjaefcfmjleaaSeenOf
import Derived.Test.YtfgjaefcfmjleaaPlain
import Derived.Deep.AppendLies
import Derived.StillTailTactics
import Derived.IntWalk
namespace Go.Proofs.Ytfgjaefcfmjleaa
open Go.RowKit

/-! ## GhostsOf -/
theorem ofInt_wrap (z : Int) : BitVec.ofInt 64 (IntKind.i64.wrap z) = BitVec.ofInt 64 z := by
  apply BitVec.eq_of_toInt_eq
  rw [BitVec.toInt_ofInt, BitVec.toInt_ofInt]
  have e : IntKind.i64.wrap z = if (2:Int)^63 ≤ z % 2^64 then z % 2^64 - 2^64 else z % 2^64 := by
    unfold IntKind.wrap
    simp [show IntKind.i64.bits = 64 from rfl, show IntKind.i64.signed = true from rfl]
  rw [e]
  simp only [Int.bmod]
  split <;> omega
theorem ghost_or (a b s : Int) : bits .andNot .i64 (bits .or .i64 a b) s = bits .or .i64 (bits .andNot .i64 a s) (bits .andNot .i64 b s) := by
  have key : ∀ x : BitVec 64, BitVec.ofInt 64 (IntKind.i64.wrap (x.toNat : Int)) = x := by
    intro x
    rw [ofInt_wrap]
    simp
  have hd : ∀ x y : Int, bits .or .i64 x y = IntKind.i64.wrap ((BitVec.ofInt 64 x ||| BitVec.ofInt 64 y).toNat : Int) := fun _ _ => rfl
  have hn : ∀ x y : Int, bits .andNot .i64 x y = IntKind.i64.wrap ((BitVec.ofInt 64 x &&& ~~~ BitVec.ofInt 64 y).toNat : Int) := fun _ _ => rfl
  rw [hn, hd, hd, hn, hn, key, key, key]
  congr 2
  congr 1
  ext i
  simp [Bool.and_or_distrib_right]
theorem ghost_zero (s : Int) : bits .andNot .i64 0 s = 0 := by
  have hn : ∀ x y : Int, bits .andNot .i64 x y = IntKind.i64.wrap ((BitVec.ofInt 64 x &&& ~~~ BitVec.ofInt 64 y).toNat : Int) := fun _ _ => rfl
  rw [hn]
  simp
  rfl

theorem OwnI.form {w : World} {B n : Nat} {v : Value} {xs : List Int} (h : OwnI w B v xs) (hl : xs.length = n) (hn : 0 < n) : ∃ g cap, v = .slice (some ⟨g, 0, none⟩) n cap ∧ B ≤ g ∧ g < w.heap.size := by
  subst hl
  exact World.ownsRow.form h hn

def lateTo (xs : List (Int × Int)) (k : Nat) : List (Int × Int) := (List.range k).map fun i => ((xs.getD ((i+1)%xs.length) (0,0)).1, (xs.getD i (0,0)).2)
theorem lateTo_len (xs : List (Int × Int)) (k : Nat) : (lateTo xs k).length = k := by simp [lateTo]
theorem lateTo_succ (xs : List (Int × Int)) (k : Nat) : lateTo xs (k+1) = lateTo xs k ++ [((xs.getD ((k+1)%xs.length) (0,0)).1, (xs.getD k (0,0)).2)] := by simp [lateTo, List.range_succ]
theorem lateTo_get {xs : List (Int × Int)} {i n : Nat} (h : i < n) : (lateTo xs n).getD i (0,0) = ((xs.getD ((i+1)%xs.length) (0,0)).1, (xs.getD i (0,0)).2) := by simp [lateTo, List.getD, h]

def ghostAt (xs : List (Int × Int)) (s : Int) (x : Nat) : Nat → Int
  | 0 => 0
  | i+1 => if bitI (xs.getD ((i+1)%xs.length) (0,0)).1 x == 1 then bits .or .i64 (ghostAt xs s x i) (bits .andNot .i64 (xs.getD i (0,0)).2 s) else ghostAt xs s x i
theorem ghostAt_eq (xs : List (Int × Int)) (s : Int) (x n : Nat) : ∀ i, i ≤ n → ghostAt xs s x i = bits .andNot .i64 (seenAt (lateTo xs n) x i) s
  | 0, _ => (ghost_zero s).symm
  | i+1, h => by
    rw [ghostAt, seenAt, lateTo_get (by omega), ghostAt_eq xs s x n i (by omega)]
    split
    · rw [ghost_or]
    · rfl

def stepRow (f : Nat → Nat → Int) (k i j : Nat) : List Int := (List.range k).map fun x => if x < j then f x (i+1) else f x i
theorem length_stepRow (f : Nat → Nat → Int) (k i j : Nat) : (stepRow f k i j).length = k := by simp [stepRow]
theorem stepRow_zero (f : Nat → Nat → Int) (k i : Nat) : stepRow f k i 0 = (List.range k).map fun x => f x i := by simp [stepRow]
theorem stepRow_full (f : Nat → Nat → Int) (k i : Nat) : stepRow f k i k = stepRow f k (i+1) 0 := by
  unfold stepRow
  apply List.map_congr_left
  intro x hx
  simp [List.mem_range.1 hx]
theorem stepRow_get {f : Nat → Nat → Int} {k i j : Nat} (h : j < k) : (stepRow f k i j).getD j 0 = f j i := by simp [stepRow, List.getD, h]
theorem stepRow_set {f : Nat → Nat → Int} {k i j : Nat} {v : Int} (hb : v = f j (i+1)) : (stepRow f k i j).set j v = stepRow f k i (j+1) := by
  subst hb
  apply List.ext_getElem?
  intro x
  by_cases hx : x = j
  · subst hx
    by_cases hk : x < k
    · rw [List.getElem?_set_self (by rw [length_stepRow]; exact hk)]
      simp [stepRow, hk]
    · rw [List.getElem?_eq_none (by rw [List.length_set, length_stepRow]; omega), List.getElem?_eq_none (by rw [length_stepRow]; omega)]
  · rw [List.getElem?_set_ne (by omega)]
    unfold stepRow
    simp only [List.getElem?_map]
    by_cases hk : x < k
    · rw [List.getElem?_range hk]
      simp only [Option.map_some]
      by_cases h1 : x < j
      · rw [if_pos h1, if_pos (by omega)]
      · rw [if_neg h1, if_neg (by omega)]
    · rw [List.getElem?_eq_none (by simp; omega)]; rfl
theorem stepRow_no {f : Nat → Nat → Int} {k i j : Nat} (hb : f j (i+1) = f j i) : stepRow f k i (j+1) = stepRow f k i j := by
  unfold stepRow
  apply List.map_congr_left
  intro x _
  by_cases hx : x = j
  · subst hx
    rw [if_pos (by omega), if_neg (by omega), hb]
  · by_cases h1 : x < j
    · rw [if_pos h1, if_pos (by omega)]
    · rw [if_neg h1, if_neg (by omega)]

def ghostF (xs : List (Int × Int)) (k : Nat) : List Int := (List.range k).map fun x => ghostAt xs (seenAt xs x xs.length) x xs.length
theorem length_ghostF (xs : List (Int × Int)) (k : Nat) : (ghostF xs k).length = k := by simp [ghostF]
def ghostR (k : Int) (xs : List (Int × Int)) : List Int × Bool := if drivenB k xs then (ghostF xs k.toNat, true) else ([], false)
theorem ghostR_no {k : Int} {xs : List (Int × Int)} (h : drivenB k xs = false) : ghostR k xs = ([], false) := by simp [ghostR, h]
theorem ghostR_yes {j : Nat} {xs : List (Int × Int)} (h : drivenB j xs = true) : ghostR j xs = (ghostF xs j, true) := by simp [ghostR, h]
theorem ghostR_len (k : Int) (xs : List (Int × Int)) : (ghostR k xs).1.length ≤ 1048576 := by
  unfold ghostR
  split
  · rename_i h
    obtain ⟨j, rfl, h1, h2⟩ := kNat (drivenB_true h).1
    simp only [length_ghostF]
    omega
  · simp

def ghostStep (xs : List (Int × Int)) (x i : Nat) : Int := if i = 0 then seenAt (lateTo xs xs.length) x xs.length else ghostAt xs (seenAt xs x xs.length) x xs.length
theorem ghostStep_zero (xs : List (Int × Int)) (k : Nat) : stepRow (ghostStep xs) k 0 0 = seenF (lateTo xs xs.length) k := by
  rw [stepRow_zero]
  simp only [ghostStep, if_pos, seenF, lateTo_len]
theorem ghostStep_end (xs : List (Int × Int)) (k : Nat) : stepRow (ghostStep xs) k 0 k = ghostF xs k := by
  rw [stepRow_full, stepRow_zero]
  simp [ghostStep, ghostF]
theorem ghostStep_get {xs : List (Int × Int)} {k j : Nat} (h : j < k) : bits .andNot .i64 ((stepRow (ghostStep xs) k 0 j).getD j 0) ((seenF xs k).getD j 0) = ghostStep xs j 1 := by
  rw [stepRow_get h]
  have : (seenF xs k).getD j 0 = seenAt xs j xs.length := by simp [seenF, List.getD, h]
  rw [this]
  simp only [ghostStep, if_pos, if_neg (show ¬ (1:Nat) = 0 by omega)]
  rw [ghostAt_eq _ _ _ _ _ (Nat.le_refl _)]

theorem step_appendSG {ops : Array Oper} {o : Oper} {a : Act} {K : Act → World → Prop} {Q : Exit → Act → World → Prop} {E : Prop} (w : World) (hgd : o.guard = none) (s x : Operand)
    (ho : o.op = .call { callee := .builtin .append, args := #[s, x], argTypes := #[57, 57] })
    (B : Nat) (v : Value) (xs : List (Int × Int)) (hown : Own2 108 w B v xs) (hs : a.eval s = v) (y z : Int) (hx : a.eval x = .slice (some ⟨w.heap.size, 0, none⟩) 1 1) (hlen : xs.length ≤ 1099511627776) (hB : B ≤ w.heap.size)
    (h : ∀ v' w', Own2 108 w' B v' (xs ++ [(y, z)]) → Below B w w' → w.grownBy w' v.ownBlock → K (a.put o.dst v') w') :
    if Region.wanted o (yielded ops a.tmps) = true then Oper.wp Try.prog o a (w.alloc (.cells #[.int .i64 y, .int .i64 z] 108)) K Q else E := by
  have hw : Region.wanted o (yielded ops a.tmps) = true := by simp [Region.wanted, hgd]
  rw [if_pos hw]
  obtain ⟨i0, hi, hz0, hz1, hz2⟩ := info_parts infoSlot
  refine wp_append_own _ s x 57 ho B 108 i0 (.agg #[.int .i64 0, .int .i64 0]) 2 16 Try.underlying57 hi hz0 hz1 hz2 rfl (by decide) v xs.length (flat2 xs) hs (World.ownsRow.alloc hown _)
    ⟨w.heap.size, 0, none⟩ 1 1 [.int .i64 y, .int .i64 z] hx rfl ?_ ?_ ?_ ?_ ?_ ?_
  · intro j u hj
    match j, hj with
    | 0, hj => simp at hj; subst hj; simp [Addr.add, go_sem]
    | 1, hj => simp at hj; subst hj; simp [Addr.add, go_sem]
  · intro u hu; simp at hu; rcases hu with rfl | rfl <;> rfl
  · unfold maxLen; omega
  · omega
  · simp; omega
  · intro v' w' h1 h2 h3
    have hg : w.grownBy w' v.ownBlock := grown_trans (World.grownBy_alloc w _ _) h2
    refine h v' w' ?_ ((Below.refl _ _).grown hg hB (fun k hk => (World.ownsRow.lt hown k hk).1)) hg
    unfold Own2
    rw [List.length_append, flat2_append]
    exact h1


set_option maxRecDepth 100000 in
set_option maxHeartbeats 4000000 in
theorem implGhostsOf_any (k : Int) (v1 : Value) (xs : List (Int × Int)) (w : World) (h1 : Two w v1 xs) :
    Calls Try.prog 100 #[.int .i64 k, v1] w fun e w' => ∃ v, e = .returned (.tuple #[v, .bool (ghostR k xs).2]) ∧ OwnI w' w.heap.size v (ghostR k xs).1 ∧ Below w.heap.size w w' := by
  obtain ⟨n, ao1, cap1, b1, o1, HN, rfl, ha1, hc1, hn1, hm1, HX⟩ := h1.open_
  clear h1
  cases hs : drivenB k xs with
  | false =>
    rw [ghostR_no hs]
    go_enter Try.func100, Try.ntmps100
    go_wp2_with (go_at_call 193; refine (isDriven_any _ _ xs _ HX.out).mono ?_; rintro e w1 ⟨rfl, hb⟩)
    go_ret2
    exact ⟨_, rfl, OwnI.nil _ _, hb⟩
  | true =>
  have hl12 : n ≤ 12 := by have := (frameB_true (drivenB_true hs).2).1; rw [HN.out] at this; exact this
  obtain ⟨q, rfl, hq1, hq6⟩ := kNat (drivenB_true hs).1
  rw [ghostR_yes hs]
  go_enter Try.func100, Try.ntmps100
  go_wp2_with (go_at_call 193; refine (isDriven_any _ _ xs _ HX.out).mono ?_; rintro e w1 ⟨rfl, hb⟩)
  go_loopw [6, 7, 8, 18] (fun oo _ _ i wr => ∃ k : Nat, k ≤ n ∧ i = .int .i64 k ∧ Hid (Own2 108 wr w.heap.size oo (lateTo xs k)) ∧ Below w.heap.size w wr) (fun _ _ _ i _ => n - (intOf i).toNat)
  case atStart => exact ⟨0, by omega, rfl, hid (Own2.nil _ _ _), hb⟩
  case round =>
    obtain ⟨k, hk, rfl, HO, hbel⟩ := hrel
    by_cases hlt : k < n
    · obtain ⟨rfl, hb1⟩ := ha1 (by omega)
      have HC1 := hid (hc1 k hlt)
      have hmlt : (k+1) % n < n := Nat.mod_lt _ (by omega)
      have HC2 := hid (hc1 ((k+1)%n) hmlt)
      have HYES := hid (lateTo_succ xs k)
      rw [HN.out] at HYES
      have e1 : wr.cell? ⟨b1, o1+k*2, none⟩ = some (.int .i64 (xs.getD k (0,0)).1) := (hbel.cell (by exact hb1)).trans HC1.out.1
      have e2 : wr.cell? ⟨b1, o1+k*2+1, none⟩ = some (.int .i64 (xs.getD k (0,0)).2) := (hbel.cell (by exact hb1)).trans HC1.out.2
      have e3 : wr.cell? ⟨b1, o1+(k+1)%n*2, none⟩ = some (.int .i64 (xs.getD ((k+1)%n) (0,0)).1) := (hbel.cell (by exact hb1)).trans HC2.out.1
      have hl := lateTo_len xs k
      have hmod : ((k:Int)+1).tmod (n:Int) = (((k+1)%n : Nat) : Int) := rfl
      generalize hgc : (xs.getD k (0,0)).1 = c at e1
      generalize hgb : (xs.getD k (0,0)).2 = b at e2 HYES
      generalize hgd : (xs.getD ((k+1)%n) (0,0)).1 = d at e3 HYES
      generalize (k+1) % n = m at *
      clear hc1 ha1 hgc hgb hgd HC1 HC2
      have HOA := hid (HO.out.alloc (.cells #[.int .i64 c, .int .i64 b] 108))
      have hbelA := hbel.alloc hbel.size (.cells #[.int .i64 c, .int .i64 b] 108)
      have hp2 : (wr.alloc (.cells #[.int .i64 c, .int .i64 b] 108)).cell? ⟨wr.heap.size, 1, none⟩ = some (.int .i64 b) := by simp [go_sem]
      have e3' : (wr.alloc (.cells #[.int .i64 c, .int .i64 b] 108)).cell? ⟨b1, o1+m*2, none⟩ = some (.int .i64 d) := by
        rw [((Below.refl wr.heap.size wr).alloc (Nat.le_refl _) _).cell (by exact Nat.lt_of_lt_of_le hb1 hbel.size)]; exact e3
      have hk0 : (0 : Int) ≤ k := by omega
      have hkn : (k : Int) < n := by omega
      have hm0 : (0 : Int) ≤ m := by omega
      have hmn : (m : Int) < n := by omega
      have hw1 : IntKind.i64.wrap ((k:Int)+1) = (k:Int)+1 := IntWalk.i64_in _ (by omega)
      have hn0 : ((n:Int) == 0) = false := by simp; omega
      have hn0' : ¬ n = 0 := by omega
      have hlk : k ≤ 1099511627776 := by omega
      go_wp2
      have hp0lt : wr.heap.size < (wr.alloc (.cells #[.int .i64 c, .int .i64 b] 108)).heap.size := by simp
      have hp0ne : some wr.heap.size ≠ u6.ownBlock := fun h => absurd (World.ownsRow.lt HO.out _ h.symm).2 (Nat.lt_irrefl _)
      clear e1 e2 e3 hbel HO
      generalize wr.alloc (.cells #[.int .i64 c, .int .i64 b] 108) = wi at *
      generalize wr.heap.size = p0 at *
      have HO1 : Hid (Own2 108 wi.drew w.heap.size u6 (lateTo xs k)) := hid (HOA.out.drawn 1)
      have hbel1 := hbelA.drew
      go_region_held3 (fun w' => w'.cell? ⟨b1, o1+m*2, none⟩ = some (.int .i64 d) ∧ w'.cell? ⟨p0, 1, none⟩ = some (.int .i64 b)) (first | go_keep | (refine ⟨?_, ?_⟩; (rw [hb'.cell (by exact hb1)]; assumption); (rw [World.grownBy.cell_far hg' _ (by exact hp0lt) (by exact hp0ne)]; assumption))) ((refine step_appendSG wi.drew rfl _ _ rfl w.heap.size _ _ HO1.out (by rfl) d b (by rfl) (by rw [hl]; exact hlk) hbel1.size ?_; intro v' w2 ho' hb' hg'))
      rw [← HYES.out] at ho'
      have HO' := hid ho'
      have hbel' := hbel1.trans hb'
      clear ho' HOA HO1 hb' hbelA hbel1 hp2 e3' hg'
      go_wp2
      go_roundw
      case rel => exact ⟨k+1, by omega, by go_num, HO', hbel'⟩
      case measure => simp [intOf]; omega
    · have ho := HO.out
      rw [show k = xs.length by rw [HN.out]; omega] at ho
      have HO' := hid ho
      have HL := hid ho.two
      clear ho HO
      have HX1 := hid (HX.out.later hbel)
      go_wp2_with (first
        | (go_at_call 194; refine (seen_any q _ xs _ HX2.out hq6).mono ?_; rintro e w3 ⟨v3, rfl, ho3, hb3⟩; have HO3 := hid ho3; clear ho3; obtain ⟨g2, cap2, rfl, hg2, hg2'⟩ := HO2.out.form (length_seenF _ _) (by omega); obtain ⟨g3, cap3, rfl, hg3, hg3'⟩ := HO3.out.form (length_seenF _ _) (by omega))
        | (go_at_call 194; refine (seen_any q _ (lateTo xs xs.length) _ HL.out hq6).mono ?_; rintro e w2 ⟨v2, rfl, ho2, hb2⟩; have HO2 := hid ho2; have HX2 := hid (HX1.out.later hb2); clear ho2))
      have hbel3 := (hbel.trans (hb2.mono hbel.size)).trans (hb3.mono (Nat.le_trans hbel.size hb2.size))
      have HA0 := hid ((HO2.out.later hb3).mono hbel.size)
      rw [← ghostStep_zero] at HA0
      have HC0 := hid (HO3.out.mono (Nat.le_trans hbel.size hb2.size))
      have hne : g3 ≠ g2 := by omega
      have hg2w : w.heap.size ≤ g2 := Nat.le_trans hbel.size hg2
      clear hg2' hg3' hg2 hg3 HO2 HO3 HX1 HX2 HO' HL ha1 hc1
      go_loopw [11, 47] (fun _ jj wr => ∃ j : Nat, j ≤ q ∧ jj = .int .i64 j ∧ Hid (OwnI wr w.heap.size (.slice (some ⟨g2, 0, none⟩) q cap2) (stepRow (ghostStep xs) q 0 j)) ∧ Hid (OwnI wr w.heap.size (.slice (some ⟨g3, 0, none⟩) q cap3) (seenF xs q)) ∧ Below w.heap.size w wr) (fun _ jj _ => q - (intOf jj).toNat)
      case atStart => exact ⟨0, by omega, rfl, HA0, HC0, hbel3⟩
      case round =>
        clear hbel3 hbel
        obtain ⟨j, hj, rfl, HA, HC, hbel⟩ := hrel
        by_cases hjk : j < q
        · have hcA := HA.out.cell (length_stepRow _ _ _ _) hjk
          have hfA := HA.out.free (length_stepRow _ _ _ _) j
          have hcC := HC.out.cell (length_seenF _ _) hjk
          have HV := hid (ghostStep_get (xs := xs) hjk)
          generalize (stepRow (ghostStep xs) q 0 j).getD j 0 = x at hcA HV
          generalize (seenF xs q).getD j 0 = y at hcC HV
          have hj0 : (0 : Int) ≤ j := by omega
          have hjk' : (j : Int) < q := by omega
          obtain ⟨hs1, hs2⟩ := (HA.out.drawn 1).set (length_stepRow _ _ _ _) j (bits .andNot .i64 x y) (stepRow_set HV.out)
          have HS := hid hs1
          have HG := hid ((hbel.drew).setCell (p := ⟨g2, j, none⟩) hg2w (.int .i64 (bits .andNot .i64 x y)))
          have HK := hid ((HC.out.drawn 1).kept hs2 (Or.inr (fun h => hne (by simpa [Value.ownBlock] using h))))
          clear hs1 hs2 HA HC hbel
          go_wp2
          go_still_tail 10, (by kernel_rfl)
          show wpList _ _ _ _ _ wr.drew
          go_wp2
          go_roundw
          case rel => exact ⟨j+1, by omega, by go_num, HS, HK, HG.out⟩
          case measure => simp [intOf]; omega
        · have ho := HA.out
          rw [show j = q by omega, ghostStep_end] at ho
          have HE := hid ho
          clear ho HA
          go_wp2
          go_ret2
          exact ⟨_, rfl, HE.out, hbel⟩

end Go.Proofs.Ytfgjaefcfmjleaa
