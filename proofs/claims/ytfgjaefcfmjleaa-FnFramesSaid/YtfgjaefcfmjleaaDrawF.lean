import Derived.Test.YtfgjaefcfmjleaaDrawT2
import Derived.Test.YtfgjaefcfmjleaaPlain
import Derived.Deep.RegionWith
import Derived.Deep.AppendLies
namespace Go.Proofs.Ytfgjaefcfmjleaa
open Go.RowKit

/-! ## What the law over frames draws -/
theorem own_keep2 {e : TypeId} {w w' : World} {B g : Nat} {v : Value} {xs : List (Int × Int)} (h : Own2 e w B v xs) (hg : w.grownBy w' (some g)) (_hB : g < B) : Own2 e w' B v xs :=
  h.kept hg (by
    cases hv : v.ownBlock with
    | none => exact .inl rfl
    | some k =>
      right
      intro e
      have h1 := (World.ownsRow.lt h k hv).1
      simp only [Option.some.injEq] at e
      omega)
theorem Own2.mono {e : TypeId} {w : World} {B B' : Nat} {v : Value} {xs : List (Int × Int)} (h : Own2 e w B v xs) (hb : B' ≤ B) : Own2 e w B' v xs := by
  refine ⟨h.1, ?_⟩
  rcases h.2 with h | ⟨g, cap, cur, a, b, c⟩
  · exact .inl h
  · exact .inr ⟨g, cap, cur, a, Nat.le_trans hb b, c⟩
/-- A struct of two numbers in block ws. -/
def SlotAt (w : World) (ws : Nat) (c b : Int) : Prop :=
  w.cell? ⟨ws, 0, none⟩ = some (.int .i64 c) ∧ w.cell? ⟨ws, 1, none⟩ = some (.int .i64 b) ∧ w.frozen? ⟨ws, 0, none⟩ = false ∧ w.frozen? ⟨ws, 1, none⟩ = false ∧ ws < w.heap.size
theorem SlotAt.kept {w w' : World} {ws g : Nat} {c b : Int} (h : SlotAt w ws c b) (hg : w.grownBy w' (some g)) (hne : ws ≠ g) : SlotAt w' ws c b := by
  obtain ⟨h1, h2, h3, h4, h5⟩ := h
  have hn : some ws ≠ some g := by simpa using hne
  exact ⟨hg.cell h1 hn, hg.cell h2 hn, (World.grownBy.frozen_far hg ⟨ws, 0, none⟩ h5 hn).trans h3, (World.grownBy.frozen_far hg ⟨ws, 1, none⟩ h5 hn).trans h4, Nat.lt_of_lt_of_le h5 hg.size⟩
theorem pow7F {t : Nat} (h : t ≤ 7) : 1 ≤ (2 : Int) ^ t ∧ (2 : Int) ^ t ≤ 128 := by
  rcases (show t = 0 ∨ t = 1 ∨ t = 2 ∨ t = 3 ∨ t = 4 ∨ t = 5 ∨ t = 6 ∨ t = 7 by omega) with rfl | rfl | rfl | rfl | rfl | rfl | rfl | rfl <;> decide

theorem Fl1Least_any (a b : Int) (w : World) : Calls Try.prog 251 #[.int .i64 a, .int .i64 b] w fun e w' => e = .returned (.int .i64 (if a < b then a else b)) ∧ w = w' := by
  by_cases h : a < b
  · have h1 : a < b := by omega
    rw [if_pos h]
    go_enter Try.func251, Try.ntmps251
    go_wp2
    go_ret
    exact ⟨rfl, rfl⟩
  · have h1 : ¬ a < b := by omega
    rw [if_neg h]
    go_enter Try.func251, Try.ntmps251
    go_wp2
    go_ret
    exact ⟨rfl, rfl⟩

theorem Fl1Most_any (a b : Int) (w : World) : Calls Try.prog 216 #[.int .i64 a, .int .i64 b] w fun e w' => e = .returned (.int .i64 (if a > b then a else b)) ∧ w = w' := by
  by_cases h : a > b
  · have h1 : b < a := by omega
    rw [if_pos h]
    go_enter Try.func216, Try.ntmps216
    go_wp2
    go_ret
    exact ⟨rfl, rfl⟩
  · have h1 : ¬ b < a := by omega
    rw [if_neg h]
    go_enter Try.func216, Try.ntmps216
    go_wp2
    go_ret
    exact ⟨rfl, rfl⟩

set_option maxRecDepth 100000 in
set_option maxHeartbeats 16000000 in
theorem frame_any (g a : Nat) (w : World) (h : Cur w g a) (ha : a ≤ 90000) :
    Calls Try.prog 235 #[.pointer (some ⟨g, 0, none⟩)] w fun e w' => ∃ (k : Int) (v : Value) (xs : List (Int × Int)), e = .returned (.tuple #[.int .i64 k, v]) ∧ Own2 108 w' w.heap.size v xs ∧ xs.length ≤ 13 ∧ Cur w' g (a+600) ∧ w.grownBy w' (some g) := by
  have HGL := hid h.lt
  have HC := hid h
  clear h
  go_enter Try.func235, Try.ntmps235
  go_wp2_with fail
  refine (among_lit g a [2, 3, 4, 1, 6, 2, 3, 4, 0, 7, 5, 2] _ _ _ HC.out (by omega) (by first | rfl | simp) rfl (by decide) (by decide)).mono ?_
  rintro e w1 ⟨k, rfl, hk, hc1, hg1⟩
  have HC1 := hid hc1
  have HG1 := hid hg1
  clear hc1 hg1 HC
  obtain ⟨m6, top, hm6, htop, ht1, ht6⟩ : ∃ (m6 : Int) (top : Nat), (if k < 6 then k else 6) = m6 ∧ (if (1 : Int) > m6 then (1 : Int) else m6) = top ∧ 1 ≤ top ∧ top ≤ 6 := by
    simp at hk
    rcases (show k = 0 ∨ k = 1 ∨ k = 2 ∨ k = 3 ∨ k = 4 ∨ k = 5 ∨ k = 6 ∨ k = 7 by omega) with rfl | rfl | rfl | rfl | rfl | rfl | rfl | rfl
    · exact ⟨0, 1, rfl, rfl, by omega, by omega⟩
    · exact ⟨1, 1, rfl, rfl, by omega, by omega⟩
    · exact ⟨2, 2, rfl, rfl, by omega, by omega⟩
    · exact ⟨3, 3, rfl, rfl, by omega, by omega⟩
    · exact ⟨4, 4, rfl, rfl, by omega, by omega⟩
    · exact ⟨5, 5, rfl, rfl, by omega, by omega⟩
    · exact ⟨6, 6, rfl, rfl, by omega, by omega⟩
    · exact ⟨6, 6, rfl, rfl, by omega, by omega⟩
  have HTOP := hid htop
  have HM6 := hid hm6
  clear hm6
  clear htop hk
  have hb0 : Below w1.heap.size w1 (w1.alloc (.cells #[] 108)) := (Below.refl _ _).alloc (Nat.le_refl _) _
  have HC0 := hid (HC1.out.later hb0)
  have HG0 := hid (grown_trans HG1.out (grown_of_below hb0 _))
  have HO0 := hid (Own2.lit0 108 w1 w.heap.size HG1.out.size)
  clear hb0 HC1 HG1
  go_wp2_with fail
  refine (Fl1Least_any _ _ _).mono ?_
  rintro e w' ⟨rfl, rfl⟩
  rw [HM6.out]
  go_wp2_with fail
  refine (Fl1Most_any _ _ _).mono ?_
  rintro e w' ⟨rfl, rfl⟩
  rw [HTOP.out]
  go_wp2_with fail
  refine (among_lit g _ [2, 3, 4, 1, 5, 6, 0, 3] _ _ _ HC0.out (by omega) (by first | rfl | simp) rfl (by decide) (by decide)).mono ?_
  rintro e w2 ⟨n, rfl, hn, hc2, hg2⟩
  have HC2 := hid hc2
  have HG2 := hid (grown_trans HG0.out hg2)
  have HO2 := hid (own_keep2 HO0.out hg2 HGL.out)
  obtain ⟨k0, hk0, hk12⟩ : ∃ k0 : Nat, n = k0 ∧ k0 ≤ 6 := by
    simp at hn
    exact ⟨n.toNat, by omega, by omega⟩
  subst hk0
  clear hc2 hg2 HC0 HG0 HO0 hn
  have hp6 := pow6 ht6
  go_wp2
  go_loopw [5, 7, 8] (fun oo nn _ wr => ∃ (k m : Nat) (xs : List (Int × Int)), k + m ≤ 6 ∧ nn = .int .i64 k ∧ (∃ ao cap, oo = .slice ao m cap) ∧ Hid (xs.length = m) ∧ Hid (Own2 108 wr w.heap.size oo xs) ∧ Hid (Cur wr g (a + 4 + 30 * (6 - k))) ∧ Hid (w.grownBy wr (some g))) (fun _ nn _ _ => (intOf nn).toNat)
  case atStart => exact ⟨k0, 0, [], by omega, rfl, ⟨_, _, rfl⟩, hid rfl, HO2, hid (HC2.out.mono (by omega)), HG2⟩
  case round =>
    obtain ⟨q, m, xs, hkm, rfl, ⟨ao, cap, rfl⟩, HM, HO, HCR, HGR⟩ := hrel
    clear HC2 HO2 HG2
    by_cases hk : 0 < q
    · obtain ⟨q', rfl⟩ : ∃ q', q = q' + 1 := ⟨q - 1, by omega⟩
      have hkI : (0 : Int) < (q' : Int) + 1 := by omega
      go_wp2_with fail
      refine (pick_any g _ ((2 : Int) ^ top) _ HCR.out (by omega) hp6.1 (by omega)).mono ?_
      rintro e w3 ⟨c, rfl, _, hc3, hg3⟩
      have HC3 := hid hc3
      have HG3 := hid (grown_trans HGR.out hg3)
      have HO3 := hid (own_keep2 HO.out hg3 HGL.out)
      clear hc3 hg3 HCR HGR HO
      go_wp2_with fail
      refine (pick_any g _ 128 _ HC3.out (by omega) (by omega) (by omega)).mono ?_
      rintro e w4 ⟨b, rfl, _, hc4, hg4⟩
      have hbs : Below w4.heap.size w4 (w4.alloc (.cells #[.int .i64 (c : Int), .int .i64 (b : Int)] 108)) := (Below.refl _ _).alloc (Nat.le_refl _) _
      have HC4 := hid (hc4.later hbs)
      have HG4 := hid (grown_trans (grown_trans HG3.out hg4) (grown_of_below hbs _))
      have HO4 := hid ((own_keep2 HO3.out hg4 HGL.out).later hbs)
      have HGB := hid hc4.lt
      have HNE : Hid ((Value.slice ao m cap).ownBlock = none ∨ (Value.slice ao m cap).ownBlock ≠ some w4.heap.size) := hid (by
        cases hv : (Value.slice ao m cap).ownBlock with
        | none => exact .inl rfl
        | some q =>
          right
          intro e
          have h1 := (World.ownsRow.lt (own_keep2 HO3.out hg4 HGL.out) q hv).2
          simp only [Option.some.injEq] at e
          omega)
      have HWS := hid (Nat.le_trans HG3.out.size hg4.size)
      clear hc4 hg4 HC3 HG3 HO3 hbs
      have hne4 : w4.heap.size ≠ g := by have := HGB.out; omega
      have HS4 : Hid (SlotAt (w4.alloc (.cells #[.int .i64 (c : Int), .int .i64 (b : Int)] 108)) w4.heap.size c b) := hid ⟨by simp [go_sem], by simp [go_sem], by simp [go_sem], by simp [go_sem], by simp⟩
      go_wp2_with fail
      generalize w4.alloc (.cells #[.int .i64 (c : Int), .int .i64 (b : Int)] 108) = wa at *
      generalize w4.heap.size = ws at *
      refine (one_any g _ 2 _ HC4.out (by omega) (by omega) (by omega)).mono ?_
      rintro e w5 ⟨b5, rfl, hc5, hg5⟩
      have HC5 := hid hc5
      have HG5 := hid (grown_trans HG4.out hg5)
      have HO5 := hid (own_keep2 HO4.out hg5 HGL.out)
      have HS5 := hid (HS4.out.kept hg5 hne4)
      clear hc5 HC4 HG4 HO4 HS4 hg5
      cases b5 with
      | false =>
        obtain ⟨e0, e1, _, _, hwl⟩ := HS5.out
        go_wp2_with (at_builtin; refine wpList_appendS w5 rfl _ _ rfl w.heap.size _ _ HO5.out rfl (c : Int) (b : Int) rfl (by have := HM.out; omega) HG5.out.size ?_; intro v' w9 ho' _ hb')
        have HO3 := hid ho'
        have HC3 := hid (HC5.out.below hb' HGL.out)
        have HG3 := hid (grown_below' HG5.out hb' HGL.out)
        clear ho' hb' HO5 HC5 HG5
        obtain ⟨a9, c9, rfl⟩ := HO3.out.spell (n := m + 1) (by rw [List.length_append, HM.out]; rfl)
        go_wp2
        go_roundw
        case rel => exact ⟨q', m+1, xs ++ [((c : Int), (b : Int))], by omega, by first | rfl | go_num | exact int_eq (by omega), ⟨_, _, rfl⟩, hid (by rw [List.length_append, HM.out]; rfl), HO3, hid (HC3.out.mono (by omega)), HG3⟩
        case measure => first | (simp [intOf]; done) | (simp [intOf]; omega)
      | true =>
        have HS6 := hid (HS5.out.kept (grown_of_below (below_drewN (Below.refl w5.heap.size w5) 1) (some g)) hne4)
        have HC6 := hid (HC5.out.later (below_drewN (Below.refl w5.heap.size w5) 1))
        have HG6 := hid (grown_trans HG5.out (grown_of_below (below_drewN (Below.refl w5.heap.size w5) 1) (some g)))
        have HO6 := hid (HO5.out.later (below_drewN (Below.refl w5.heap.size w5) 1))
        have HGW : Hid (g < ws) := HGB
        clear HS5 HC5 HG5 HO5
        have HP1 := hid (pick_any g _ (top : Int) w5.drew HC6.out (by omega) (by omega) (by omega))
        have HP2 : Hid (∀ w6, Cur w6 g (a + 4 + 30 * (6 - (q' + 1)) + 2 + 2 + 2 + 2) → Calls Try.prog 145 #[.pointer (some ⟨g, 0, none⟩), .int .i64 10] w6 fun e w' => ∃ r : Nat, e = .returned (.int .i64 r) ∧ (r : Int) < 10 ∧ Cur w' g (a + 4 + 30 * (6 - (q' + 1)) + 2 + 2 + 2 + 2 + 2) ∧ w6.grownBy w' (some g)) := hid fun w6 h => pick_any g _ 10 w6 h (by omega) (by omega) (by omega)
        go_wp2
        go_region_with (first
          | (go_at_call 145; with_reducible refine Calls.mono HP1.out ?_; rintro e w6 ⟨q9, rfl, hq9, hc6, hg6⟩; have hq6 := pow6 (k := q9) (by omega))
          | (go_at_call 145; with_reducible refine Calls.mono (HP2.out w6 hc6) ?_; rintro e w7 ⟨d9, rfl, hd9, hc7, hg7⟩)
          | (go_at_call 150; refine (l2Digit_any _ w7 (inB_mk (by omega) (by omega))).mono ?_; rintro e w8 ⟨rfl, hb8⟩; obtain ⟨s0, s1, s2, s3, s4⟩ := ((HS6.out.kept hg6 hne4).kept hg7 hne4).kept (grown_of_below hb8 (some g)) hne4))
        all_goals
          generalize digitC (d9 : Int) = y9 at *
          have HG8 := hid (grown_trans (grown_trans (grown_trans HG6.out hg6) hg7) (grown_of_below hb8 (some g)))
          have HC8 := hid (hc7.later hb8)
          have HO8 := hid (((own_keep2 (own_keep2 HO6.out hg6 HGL.out) hg7 HGL.out)).later hb8)
          have hwq : IntKind.i64.wrap ((2 : Int) ^ q9) = (2 : Int) ^ q9 := IntWalk.i64_in _ (by omega)
          try rw [hwq]
          clear hwq
          generalize (2 : Int) ^ q9 = x9 at *
          have hgs := grown_trans (grown_setAt w8 ws 0 (.int .i64 x9)) (grown_setAt (w8.setCell ⟨ws, 0, none⟩ (.int .i64 x9)) ws 1 (.int .i64 y9))
          have hbs1 : Below ws w8 ((w8.setCell ⟨ws, 0, none⟩ (.int .i64 x9)).setCell ⟨ws, 1, none⟩ (.int .i64 y9)) := ((Below.refl ws w8).setCell (p := ⟨ws, 0, none⟩) (Nat.le_refl _) _).setCell (p := ⟨ws, 1, none⟩) (Nat.le_refl _) _
          have e0 : ((w8.setCell ⟨ws, 0, none⟩ (.int .i64 x9)).setCell ⟨ws, 1, none⟩ (.int .i64 y9)).cell? ⟨ws, 0, none⟩ = some (.int .i64 x9) := by
            rw [World.cell?_setCell_other _ _ _ _ (by simp)]
            exact World.cell?_setCell_same' _ _ _ (by rw [s0]; rfl)
          have e1 : ((w8.setCell ⟨ws, 0, none⟩ (.int .i64 x9)).setCell ⟨ws, 1, none⟩ (.int .i64 y9)).cell? ⟨ws, 1, none⟩ = some (.int .i64 y9) :=
            World.cell?_setCell_same' _ _ _ (by rw [World.cell?_setCell_other _ _ _ _ (by simp), s1]; rfl)
          have HO9 := hid (HO8.out.kept hgs HNE.out)
          have HC9 := hid (HC8.out.below hbs1 HGW.out)
          have HG9 := hid (grown_below' HG8.out (hbs1.mono HWS.out) HGL.out)
          generalize (w8.setCell ⟨ws, 0, none⟩ (.int .i64 x9)).setCell ⟨ws, 1, none⟩ (.int .i64 y9) = w10 at *
          clear hgs hbs1 s0 s1 s2 s3 s4 HS6 HC6 HG6 HO6 HP1 HP2 hc6 hg6 hc7 hg7 hb8 HG8 HC8 HO8
          go_wp2_with (at_builtin; refine wpList_appendS w10 rfl _ _ rfl w.heap.size _ _ HO9.out rfl x9 y9 rfl (by have := HM.out; omega) HG9.out.size ?_; intro v' w9 ho' _ hb')
          have HO3 := hid ho'
          have HC3 := hid (HC9.out.below hb' HGL.out)
          have HG3 := hid (grown_below' HG9.out hb' HGL.out)
          clear ho' hb' HO9 HC9 HG9
          obtain ⟨a9, c9, rfl⟩ := HO3.out.spell (n := m + 1) (by rw [List.length_append, HM.out]; rfl)
          go_wp2
          go_roundw
          case rel => exact ⟨q', m+1, xs ++ [(x9, y9)], by omega, by first | rfl | go_num | exact int_eq (by omega), ⟨_, _, rfl⟩, hid (by rw [List.length_append, HM.out]; rfl), HO3, hid (HC3.out.mono (by omega)), HG3⟩
          case measure => first | (simp [intOf]; done) | (simp [intOf]; omega)
    · have hk0 : q = 0 := by omega
      subst hk0
      have hm6' : m ≤ 6 := by omega
      go_wp2_with fail
      refine (pick_any g _ 40 _ HCR.out (by omega) (by omega) (by omega)).mono ?_
      rintro e w3 ⟨r, rfl, hr, hc2, hg2⟩
      have HC2 := hid hc2
      have HG2 := hid (grown_trans HGR.out hg2)
      have HO2 := hid (own_keep2 HO.out hg2 HGL.out)
      clear hc2 hg2 HCR HGR HO
      by_cases hr3 : r ≤ 3
      · rcases (show r = 0 ∨ r = 1 ∨ r = 2 ∨ r = 3 by omega) with rfl | rfl | rfl | rfl
        · go_wp2_with (at_builtin; refine wpList_appendS w3 rfl _ _ rfl w.heap.size _ _ HO2.out rfl ((2 : Int) ^ top) 0 rfl (by have := HM.out; omega) HG2.out.size ?_; intro v' w9 ho' _ hb')
          have HO3 := hid ho'
          have HC3 := hid (HC2.out.below hb' HGL.out)
          have HG3 := hid (grown_below' HG2.out hb' HGL.out)
          clear ho' hb' HO2 HC2 HG2
          obtain ⟨a9, c9, rfl⟩ := HO3.out.spell (n := m + 1) (by rw [List.length_append, HM.out]; rfl)
          go_wp2
          go_ret2
          exact ⟨k, _, _, rfl, HO3.out, by rw [List.length_append, HM.out]; simp; omega, HC3.out.mono (by omega), HG3.out⟩
        · go_wp2_with fail
          refine (among_lit g _ [128, -1] _ _ _ HC2.out (by omega) (by first | rfl | simp) rfl (by decide) (by decide)).mono ?_
          rintro e w4 ⟨y, rfl, _, hc4, hg4⟩
          have HC4 := hid hc4
          have HG4 := hid (grown_trans HG2.out hg4)
          have HO4 := hid (own_keep2 HO2.out hg4 HGL.out)
          clear hc4 hg4 HC2 HG2 HO2
          go_wp2_with (at_builtin; refine wpList_appendS w4 rfl _ _ rfl w.heap.size _ _ HO4.out rfl 0 y rfl (by have := HM.out; omega) HG4.out.size ?_; intro v' w9 ho' _ hb')
          have HO3 := hid ho'
          have HC3 := hid (HC4.out.below hb' HGL.out)
          have HG3 := hid (grown_below' HG4.out hb' HGL.out)
          clear ho' hb' HO4 HC4 HG4
          obtain ⟨a9, c9, rfl⟩ := HO3.out.spell (n := m + 1) (by rw [List.length_append, HM.out]; rfl)
          go_wp2
          go_ret2
          exact ⟨k, _, _, rfl, HO3.out, by rw [List.length_append, HM.out]; simp; omega, HC3.out.mono (by omega), HG3.out⟩
        · go_wp2
          go_loopw [5] (fun oo wr => ∃ (m : Nat) (xs : List (Int × Int)), m ≤ 13 ∧ (∃ ao cap, oo = .slice ao m cap) ∧ Hid (xs.length = m) ∧ Hid (Own2 108 wr w.heap.size oo xs) ∧ Hid (Cur wr g (a + 300)) ∧ Hid (w.grownBy wr (some g))) (fun oo _ => match oo with | .slice _ m _ => 13 - m | _ => 0)
          case atStart => exact ⟨m, xs, by omega, ⟨_, _, rfl⟩, HM, HO2, hid (HC2.out.mono (by omega)), HG2⟩
          case round =>
            clear HO2 HC2 HG2 HM
            obtain ⟨m, xs, hm13, ⟨ao, cap, rfl⟩, HM, HO2, HC2, HG2⟩ := hrel
            by_cases hlt : m < 13
            · have hltI : (m : Int) < 13 := by omega
              go_wp2_with (at_builtin; refine wpList_appendS wr rfl _ _ rfl w.heap.size _ _ HO2.out rfl 1 1 rfl (by have := HM.out; omega) HG2.out.size ?_; intro v' w9 ho' _ hb')
              have HO3 := hid ho'
              have HC3 := hid (HC2.out.below hb' HGL.out)
              have HG3 := hid (grown_below' HG2.out hb' HGL.out)
              clear ho' hb' HO2 HC2 HG2
              obtain ⟨a9, c9, rfl⟩ := HO3.out.spell (n := m + 1) (by rw [List.length_append, HM.out]; rfl)
              go_wp2
              go_roundw
              case rel => exact ⟨m+1, _, by omega, ⟨_, _, rfl⟩, hid (by rw [List.length_append, HM.out]; rfl), HO3, HC3, HG3⟩
              case measure =>
                show 13 - (m + 1) < 13 - m
                omega
            · have hnot : ¬ ((m : Int) < 13) := by omega
              go_wp2
              go_ret2
              first | exact ⟨k, _, xs, rfl, HO2.out, by have := HM.out; omega, HC2.out.mono (by omega), HG2.out⟩ | exact ⟨k, _, rfl, xs, HO2.out, by have := HM.out; omega, HC2.out.mono (by omega), HG2.out⟩ | exact ⟨_, rfl, _, xs, rfl, HO2.out, by have := HM.out; omega, HC2.out.mono (by omega), HG2.out⟩
        · go_wp2
          go_loopw [5] (fun oo wr => ∃ (m : Nat) (xs : List (Int × Int)), m ≤ 13 ∧ (∃ ao cap, oo = .slice ao m cap) ∧ Hid (xs.length = m) ∧ Hid (Own2 108 wr w.heap.size oo xs) ∧ Hid (Cur wr g (a + 300)) ∧ Hid (w.grownBy wr (some g))) (fun oo _ => match oo with | .slice _ m _ => 13 - m | _ => 0)
          case atStart => exact ⟨m, xs, by omega, ⟨_, _, rfl⟩, HM, HO2, hid (HC2.out.mono (by omega)), HG2⟩
          case round =>
            clear HO2 HC2 HG2 HM
            obtain ⟨m, xs, hm13, ⟨ao, cap, rfl⟩, HM, HO2, HC2, HG2⟩ := hrel
            by_cases hlt : m < 8
            · have hltI : (m : Int) < 8 := by omega
              go_wp2_with (at_builtin; refine wpList_appendS wr rfl _ _ rfl w.heap.size _ _ HO2.out rfl 1 2 rfl (by have := HM.out; omega) HG2.out.size ?_; intro v' w9 ho' _ hb')
              have HO3 := hid ho'
              have HC3 := hid (HC2.out.below hb' HGL.out)
              have HG3 := hid (grown_below' HG2.out hb' HGL.out)
              clear ho' hb' HO2 HC2 HG2
              obtain ⟨a9, c9, rfl⟩ := HO3.out.spell (n := m + 1) (by rw [List.length_append, HM.out]; rfl)
              go_wp2
              go_roundw
              case rel => exact ⟨m+1, _, by omega, ⟨_, _, rfl⟩, hid (by rw [List.length_append, HM.out]; rfl), HO3, HC3, HG3⟩
              case measure =>
                show 13 - (m + 1) < 13 - m
                omega
            · have hnot : ¬ ((m : Int) < 8) := by omega
              go_wp2
              go_ret2
              first | exact ⟨k, _, xs, rfl, HO2.out, by have := HM.out; omega, HC2.out.mono (by omega), HG2.out⟩ | exact ⟨k, _, rfl, xs, HO2.out, by have := HM.out; omega, HC2.out.mono (by omega), HG2.out⟩ | exact ⟨_, rfl, _, xs, rfl, HO2.out, by have := HM.out; omega, HC2.out.mono (by omega), HG2.out⟩
      · have b0 : ((r : Int) == 0) = false := by simp; omega
        have b1 : ((r : Int) == 1) = false := by simp; omega
        have b2 : ((r : Int) == 2) = false := by simp; omega
        have b3 : ((r : Int) == 3) = false := by simp; omega
        go_wp2
        go_ret2
        first | exact ⟨k, _, xs, rfl, HO2.out, by have := HM.out; omega, HC2.out.mono (by omega), HG2.out⟩ | exact ⟨k, _, rfl, xs, HO2.out, by have := HM.out; omega, HC2.out.mono (by omega), HG2.out⟩ | exact ⟨_, rfl, _, xs, rfl, HO2.out, by have := HM.out; omega, HC2.out.mono (by omega), HG2.out⟩

end Go.Proofs.Ytfgjaefcfmjleaa
