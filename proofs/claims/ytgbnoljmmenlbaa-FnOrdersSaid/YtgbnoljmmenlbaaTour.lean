import Derived.Test.YtgbnoljmmenlbaaMemo
import Derived.Deep.RegionHeld3
import Derived.StillTailTactics
namespace Go.Proofs.Ytgbnoljmmenlbaa
open Go.RowKit Go.Maps

/-! ## (*tour).rest, (*tour).through -/
def dd (a b : Int) : Int := farI (digitC a) (digitC b)
theorem dd_range (a b : Int) : 0 ≤ dd a b ∧ dd a b ≤ 7 := farI_range _ _
theorem or_nat {a b : Nat} (ha : a < 4611686018427387904) (hb : b < 4611686018427387904) : bits .or .i64 (a : Int) (b : Int) = ((a ||| b : Nat) : Int) := by
  show IntKind.i64.wrap (((BitVec.ofInt 64 (a : Int)) ||| (BitVec.ofInt 64 (b : Int))).toNat : Int) = _
  rw [show (BitVec.ofInt 64 (a : Int)) = BitVec.ofNat 64 a by simp, show (BitVec.ofInt 64 (b : Int)) = BitVec.ofNat 64 b by simp, BitVec.toNat_or, BitVec.toNat_ofNat, BitVec.toNat_ofNat, Nat.mod_eq_of_lt (by omega), Nat.mod_eq_of_lt (by omega)]
  have h := Nat.or_lt_two_pow (n := 62) (x := a) (y := b) (by omega) (by omega)
  exact IntWalk.i64_in _ (by omega)
theorem xor_nat {a b : Nat} (ha : a < 4611686018427387904) (hb : b < 4611686018427387904) : bits .xor .i64 (a : Int) (b : Int) = ((a ^^^ b : Nat) : Int) := by
  show IntKind.i64.wrap (((BitVec.ofInt 64 (a : Int)) ^^^ (BitVec.ofInt 64 (b : Int))).toNat : Int) = _
  rw [show (BitVec.ofInt 64 (a : Int)) = BitVec.ofNat 64 a by simp, show (BitVec.ofInt 64 (b : Int)) = BitVec.ofNat 64 b by simp, BitVec.toNat_xor, BitVec.toNat_ofNat, BitVec.toNat_ofNat, Nat.mod_eq_of_lt (by omega), Nat.mod_eq_of_lt (by omega)]
  have h := Nat.xor_lt_two_pow (n := 62) (x := a) (y := b) (by omega) (by omega)
  exact IntWalk.i64_in _ (by omega)

theorem shl_nat {x : Nat} (hx : x < 62) : IntKind.i64.wrap ((2 : Int) ^ x) = ((2 ^ x : Nat) : Int) := by
  have h : (2 : Nat) ^ x < 2 ^ 62 := Nat.pow_lt_pow_right (by omega) hx
  have e : ((2 : Int) ^ x) = ((2 ^ x : Nat) : Int) := by simp
  rw [e]
  generalize (2 : Nat) ^ x = q at h
  exact IntWalk.i64_in _ (by omega)
theorem or_shl {s x : Nat} (hs : s < 4611686018427387904) (hx : x < 62) : bits .or .i64 (s : Int) (IntKind.i64.wrap ((2 : Int) ^ x)) = ((s ||| 2 ^ x : Nat) : Int) := by
  have h : (2 : Nat) ^ x < 2 ^ 62 := Nat.pow_lt_pow_right (by omega) hx
  rw [shl_nat hx, or_nat hs (by omega)]
theorem xor_shl {s x : Nat} (hs : s < 4611686018427387904) (hx : x < 62) : bits .xor .i64 (s : Int) (IntKind.i64.wrap ((2 : Int) ^ x)) = ((s ^^^ 2 ^ x : Nat) : Int) := by
  have h : (2 : Nat) ^ x < 2 ^ 62 := Nat.pow_lt_pow_right (by omega) hx
  rw [shl_nat hx, xor_nat hs (by omega)]

/-- The struct that a search goes by: the digits, the table, the known costs, the digit to come back to. -/
structure TourS (w : World) (tb bm n cap : Nat) (ao : Option Addr) (own : List Int) (back : Int) : Prop where
  c0 : w.cell? ⟨tb, 0, none⟩ = some (.slice ao n cap)
  ct : ∀ p q : Nat, p < 10 → q < 10 → w.cell? ⟨tb, 1 + p * 10 + q, none⟩ = some (.int .i64 (dd p q))
  cm : w.cell? ⟨tb, 101, none⟩ = some (.map (some bm))
  cb : w.cell? ⟨tb, 102, none⟩ = some (.int .i64 back)
  ints : Ints w (.slice ao n cap) own
  lt : tb < w.heap.size
  ne : tb ≠ bm
  off : (Value.slice ao n cap).ownBlock = none ∨ (Value.slice ao n cap).ownBlock ≠ some bm
theorem TourS.kept {w w' : World} {tb bm n cap : Nat} {ao : Option Addr} {own : List Int} {back : Int} (h : TourS w tb bm n cap ao own back) (hg : w.grownBy w' (some bm)) : TourS w' tb bm n cap ao own back :=
  ⟨hg.cell h.c0 (by simpa using h.ne), fun p q hp hq => hg.cell (h.ct p q hp hq) (by simpa using h.ne), hg.cell h.cm (by simpa using h.ne), hg.cell h.cb (by simpa using h.ne), h.ints.aside hg h.off, Nat.lt_of_lt_of_le h.lt hg.size, h.ne, h.off⟩

set_option maxRecDepth 100000 in
set_option maxHeartbeats 4000000 in
theorem through_any (tb bm n cap : Nat) (ao : Option Addr) (own : List Int) (back : Int) (f : Nat → Nat → Int) (hn : n ≤ 10) (hd : ∀ i, i < own.length → dig9 (own.getD i 0) = true) (s l x k k' : Nat) (r : Int) (hr0 : 0 ≤ r) (hr7 : r ≤ 1000) (w : World) (hT : TourS w tb bm n cap ao own back) (hM : Memo w bm k f)
    (hs : s < 2 ^ 10) (hl : l < n) (hx : x < n)
    (HREST : ∀ w', TourS w' tb bm n cap ao own back → Memo w' bm k f → Calls Try.prog 58 #[.pointer (some ⟨tb, 0, none⟩), .int .i64 ((s ||| 2 ^ x : Nat) : Int), .int .i64 x] w' fun e w'' => e = .returned (.int .i64 r) ∧ w'.grownBy w'' (some bm) ∧ Memo w'' bm k' f) :
    Calls Try.prog 59 #[.pointer (some ⟨tb, 0, none⟩), .int .i64 s, .int .i64 l, .int .i64 x] w fun e w' =>
      e = .returned (.int .i64 (dd (own.getD l 0) (own.getD x 0) + r)) ∧ w.grownBy w' (some bm) ∧ Memo w' bm k' f := by
  obtain ⟨n', ao1, cap1, b1, o1, HN, he, ha1, hc1, hn1, hm1, HX⟩ := hT.ints.open_
  simp only [Value.slice.injEq] at he
  obtain ⟨rfl, rfl, rfl⟩ := he
  obtain ⟨rfl, hb1⟩ := ha1 (by omega)
  have c0 := hT.c0
  have e1 := hc1 l hl
  have e2 := hc1 x hx
  obtain ⟨p, hp, hp10⟩ := nat_digit (hd l (by rw [HN.out]; exact hl))
  obtain ⟨q, hq, hq10⟩ := nat_digit (hd x (by rw [HN.out]; exact hx))
  have ct := hT.ct p q hp10 hq10
  rw [hp] at e1 ⊢
  rw [hq] at e2 ⊢
  have hdd := dd_range p q
  generalize dd (p : Int) (q : Int) = f0 at *
  have HT := hid hT
  have HM := hid hM
  have HR := hid HREST
  have HD0 : Hid (w.grownBy w.drew (some bm)) := hid (grown_of_below ((Below.refl _ _).drew) _)
  have HKEEP : Hid (∀ W, w.grownBy W (some bm) → W.cell? ⟨tb, 0, none⟩ = some (.slice (some ⟨b1, o1, none⟩) n cap) ∧ W.cell? ⟨b1, o1 + l, none⟩ = some (.int .i64 p) ∧ W.cell? ⟨b1, o1 + x, none⟩ = some (.int .i64 q) ∧ W.cell? ⟨tb, 1 + p * 10 + q, none⟩ = some (.int .i64 f0) ∧ w.grownBy W (some bm)) := hid fun W hg => by
    have hne : (some b1 : Option Nat) ≠ some bm := by
      rcases HT.out.off with h | h
      · simp [Value.ownBlock] at h
      · simpa [Value.ownBlock] using h
    have hne2 : (some tb : Option Nat) ≠ some bm := by simpa using HT.out.ne
    exact ⟨hg.cell c0 hne2, hg.cell e1 hne, hg.cell e2 hne, hg.cell ct hne2, hg⟩
  have hor := or_shl (s := s) (x := x) (by omega) (by omega)
  obtain ⟨so, hso⟩ : ∃ so, s ||| 2 ^ x = so := ⟨_, rfl⟩
  rw [hso] at hor HR
  clear hso
  have hl0 : (0 : Int) ≤ l := by omega
  have hlI : (l : Int) < n := by omega
  have hx0 : (0 : Int) ≤ x := by omega
  have hxI : (x : Int) < n := by omega
  have hp0 : (0 : Int) ≤ p := by omega
  have hpI : (p : Int) < 10 := by omega
  have hq0 : (0 : Int) ≤ q := by omega
  have hqI : (q : Int) < 10 := by omega
  have hw1 : IntKind.i64.wrap (f0 + r) = f0 + r := IntWalk.i64_in _ (by omega)
  clear hT hM HREST hc1 ha1 HX
  go_enter Try.func59, Try.ntmps59
  go_wp2
  go_region_held3 (fun W => W.cell? ⟨tb, 0, none⟩ = some (.slice (some ⟨b1, o1, none⟩) n cap) ∧ W.cell? ⟨b1, o1 + l, none⟩ = some (.int .i64 p) ∧ W.cell? ⟨b1, o1 + x, none⟩ = some (.int .i64 q) ∧ W.cell? ⟨tb, 1 + p * 10 + q, none⟩ = some (.int .i64 f0) ∧ w.grownBy W (some bm))
    (first
      | exact HKEEP.out _ HD0.out
      | exact HKEEP.out _ hgF)
    (first
      | (go_at_call 58; refine (HR.out _ (HT.out.kept HD0.out) (HM.out.kept (grown_of_below ((Below.refl _ _).drew) none) (by simp))).mono ?_; rintro e w' ⟨rfl, hg, hm⟩; have hgF := grown_trans HD0.out hg))
  go_wp2
  go_ret
  exact ⟨rfl, hgF, hm⟩
end Go.Proofs.Ytgbnoljmmenlbaa
