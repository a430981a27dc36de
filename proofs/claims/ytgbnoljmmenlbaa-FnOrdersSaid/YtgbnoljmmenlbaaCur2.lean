import Derived.Test.YtgbnoljmmenlbaaCur
namespace Go.Proofs.Ytgbnoljmmenlbaa
open Go.RowKit

/-! ## pick, one, among, cell -/
set_option maxRecDepth 100000 in
set_option maxHeartbeats 4000000 in
theorem pick_any (g a : Nat) (n : Int) (w : World) (h : Cur w g a) (ha : a ≤ 1000000) (hn : 1 ≤ n) (hn2 : n ≤ 1000000) :
    Calls Try.prog 43 #[.pointer (some ⟨g, 0, none⟩), .int .i64 n] w fun e w' => ∃ r : Nat, e = .returned (.int .i64 r) ∧ (r : Int) < n ∧ Cur w' g (a+2) ∧ w.grownBy w' (some g) := by
  have HC := hid h
  clear h
  by_cases h1 : n ≤ 1
  · go_enter Try.func43, Try.ntmps43
    go_wp2
    go_ret
    exact ⟨0, rfl, by omega, HC.out.mono (by omega), World.grownBy.refl _ _⟩
  · by_cases h2 : 200 < n
    · go_enter Try.func43, Try.ntmps43
      go_wp2_with fail
      refine (next_any g a _ HC.out (by omega)).mono ?_
      rintro e w1 ⟨r1, rfl, hr0, hr1, hc1, hg1⟩
      have HC1 := hid hc1
      have HG1 := hid hg1
      clear hc1 hg1 HC
      go_wp2_with fail
      refine (next_any g (a+1) _ HC1.out (by omega)).mono ?_
      rintro e w2 ⟨r2, rfl, hs0, hs1, hc2, hg2⟩
      have HC2 := hid hc2
      have HG2 := hid (grown_trans HG1.out hg2)
      clear hc2 hg2 HC1 HG1
      have hm : 0 ≤ (r1 * 256 + r2) % n := Int.emod_nonneg _ (by omega)
      have hm2 : (r1 * 256 + r2) % n < n := Int.emod_lt_of_pos _ (by omega)
      have hnn : ¬ n = 0 := by omega
      obtain ⟨r, hr⟩ : ∃ r : Nat, (r1 * 256 + r2) % n = r := ⟨((r1 * 256 + r2) % n).toNat, by omega⟩
      have HR := hid hr
      clear hr
      go_wp2
      go_ret
      exact ⟨r, ret_int HR.out, by have := HR.out; omega, HC2.out, HG2.out⟩
    · go_enter Try.func43, Try.ntmps43
      go_wp2_with fail
      refine (next_any g a _ HC.out (by omega)).mono ?_
      rintro e w1 ⟨r1, rfl, hr0, hr1, hc1, hg1⟩
      have HC1 := hid hc1
      have HG1 := hid hg1
      clear hc1 hg1 HC
      have hm : 0 ≤ r1 % n := Int.emod_nonneg _ (by omega)
      have hm2 : r1 % n < n := Int.emod_lt_of_pos _ (by omega)
      have hnn : ¬ n = 0 := by omega
      obtain ⟨r, hr⟩ : ∃ r : Nat, r1 % n = r := ⟨(r1 % n).toNat, by omega⟩
      have HR := hid hr
      clear hr
      go_wp2
      go_ret
      exact ⟨r, ret_int HR.out, by have := HR.out; omega, HC1.out.mono (by omega), HG1.out⟩

set_option maxRecDepth 100000 in
set_option maxHeartbeats 4000000 in
theorem one_any (g a : Nat) (n : Int) (w : World) (h : Cur w g a) (ha : a ≤ 1000000) (hn : 1 ≤ n) (hn2 : n ≤ 1000000) :
    Calls Try.prog 23 #[.pointer (some ⟨g, 0, none⟩), .int .i64 n] w fun e w' => ∃ b : Bool, e = .returned (.bool b) ∧ Cur w' g (a+2) ∧ w.grownBy w' (some g) := by
  have HC := hid h
  clear h
  go_enter Try.func23, Try.ntmps23
  go_wp2_with fail
  refine (pick_any g a n _ HC.out ha hn hn2).mono ?_
  rintro e w1 ⟨r, rfl, hr, hc, hg⟩
  have HC1 := hid hc
  have HG1 := hid hg
  clear hc hg HC
  go_wp2
  go_ret
  exact ⟨_, rfl, HC1.out, HG1.out⟩

set_option maxRecDepth 100000 in
set_option maxHeartbeats 4000000 in
theorem among_any (g a : Nat) (v : Value) (xs : List Int) (w : World) (h : Cur w g a) (ha : a ≤ 1000000) (hx : Ints w v xs) (hne : v.ownBlock = none ∨ v.ownBlock ≠ some g) (hl : 0 < xs.length) (hl2 : xs.length ≤ 1000) :
    Calls Try.prog 44 #[.pointer (some ⟨g, 0, none⟩), v] w fun e w' => ∃ r : Int, e = .returned (.int .i64 r) ∧ r ∈ xs ∧ Cur w' g (a+2) ∧ w.grownBy w' (some g) := by
  have HC := hid h
  have HNE := hid hne
  obtain ⟨n, ao1, cap1, b1, o1, HN, rfl, ha1, hc1, hn1, hm1, HX⟩ := hx.open_
  rw [HN.out] at hl hl2
  clear h hne hx ha1 hc1
  go_enter Try.func44, Try.ntmps44
  go_wp2_with fail
  refine (pick_any g a n _ HC.out ha (by omega) (by omega)).mono ?_
  rintro e w1 ⟨r, rfl, hr, hc, hg⟩
  have HC1 := hid hc
  have HX1 := hid (HX.out.aside hg HNE.out)
  have HG1 := hid hg
  clear hc hg HC
  obtain ⟨n', ao2, cap2, b2, o2, HN2, he, ha2, hc2, _, _, _⟩ := HX1.out.open_
  simp only [Value.slice.injEq] at he
  obtain ⟨rfl, rfl, rfl⟩ := he
  have hrn : r < n := by omega
  obtain ⟨rfl, hb2⟩ := ha2 (by omega)
  have e1 := hc2 r hrn
  have HM : Hid (xs.getD r 0 ∈ xs) := hid (by
    rw [List.getD_eq_getElem?_getD, List.getElem?_eq_getElem (by rw [HN.out]; exact hrn)]
    exact List.getElem_mem _)
  generalize xs.getD r 0 = x at e1 HM
  have hr0 : (0 : Int) ≤ r := by omega
  clear hc2 ha2
  go_wp2
  go_ret
  exact ⟨x, rfl, HM.out, HC1.out, HG1.out⟩

theorem own_lit (w : World) (cs : List Int) (h : cs.length ≤ 1000) : OwnI (w.alloc (.cells (cs.map (Value.int .i64)).toArray 3)) w.heap.size (.slice (some ⟨w.heap.size, 0, none⟩) cs.length cs.length) cs :=
  World.ownsRow_lit w (cs.map (Value.int .i64)).toArray cs.length (Nat.le_refl _) (by simp [maxLen]; omega) (by simp)
theorem own_apart_cur {w w' : World} {B g a : Nat} {v : Value} {xs : List Int} (h : OwnI w' B v xs) (hc : Cur w g a) (hB : w.heap.size ≤ B) : v.ownBlock = none ∨ v.ownBlock ≠ some g := by
  cases hv : v.ownBlock with
  | none => exact .inl rfl
  | some k =>
    right
    intro e
    have h1 := (World.ownsRow.lt h k hv).1
    have h2 := hc.lt
    simp only [Option.some.injEq] at e
    omega
/-- among, over a literal just laid. -/
theorem among_lit (g a : Nat) (cs : List Int) (w : World) (k n : Nat) (h : Cur w g a) (ha : a ≤ 1000000) (hk : w.heap.size = k) (hn : cs.length = n) (hl : 0 < cs.length) (hl2 : cs.length ≤ 1000) :
    Calls Try.prog 44 #[.pointer (some ⟨g, 0, none⟩), .slice (some ⟨k, 0, none⟩) n n] (w.alloc (.cells (cs.map (Value.int .i64)).toArray 3)) fun e w' => ∃ r : Int, e = .returned (.int .i64 r) ∧ r ∈ cs ∧ Cur w' g (a+2) ∧ w.grownBy w' (some g) := by
  subst hk hn
  have ho := own_lit w cs hl2
  have hb : Below w.heap.size w (w.alloc (.cells (cs.map (Value.int .i64)).toArray 3)) := (Below.refl _ _).alloc (Nat.le_refl _) _
  exact (among_any g a _ cs _ (h.later hb) ha ho.ints (own_apart_cur ho h (Nat.le_refl _)) hl hl2).mono fun e w' ⟨r, h1, h2, h3, h4⟩ => ⟨r, h1, h2, h3, grown_trans (grown_of_below hb _) h4⟩


end Go.Proofs.Ytgbnoljmmenlbaa
