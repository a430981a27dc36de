import Derived.Test.YtfgjaefcfmjleaaApp
import Derived.Test.YtfgjaefcfmjleaaCode
namespace Go.Proofs.Ytfgjaefcfmjleaa
open Go.RowKit

/-! ## FlipCode -/
def flipR (xs : List Int) (b : Int) : List Int × Bool := if codeB xs && cellB b then (xs.map fun c => xorI c b, true) else ([], false)
theorem flipR_code {xs : List Int} {b : Int} (h : codeB xs = false) : flipR xs b = ([], false) := by simp [flipR, h]
theorem flipR_cell {xs : List Int} {b : Int} (h : cellB b = false) : flipR xs b = ([], false) := by simp [flipR, h]
theorem flipR_yes {xs : List Int} {b : Int} (h : codeB xs = true) (h' : cellB b = true) : flipR xs b = (xs.map fun c => xorI c b, true) := by simp [flipR, h, h']
theorem flipR_len (xs : List Int) (b : Int) : (flipR xs b).1.length ≤ 1048576 := by
  unfold flipR
  split
  · rename_i h
    simp only [Bool.and_eq_true] at h
    have := (codeB_true h.1).1
    simp only [List.length_map]
    omega
  · simp
theorem map_take_snoc {xs : List Int} {k : Nat} {x : Int} (f : Int → Int) (h : k < xs.length) (e : xs.getD k 0 = x) : (xs.take (k+1)).map f = (xs.take k).map f ++ [f x] := by
  rw [take_snoc h e, List.map_append]; rfl

set_option maxHeartbeats 1000000 in
theorem implFlipCode_any (v1 : Value) (xs : List Int) (b : Int) (w : World) (h1 : Ints w v1 xs) :
    Calls Try.prog 21 #[v1, .int .i64 b] w fun e w' => ∃ v, e = .returned (.tuple #[v, .bool (flipR xs b).2]) ∧ OwnI w' w.heap.size v (flipR xs b).1 ∧ Below w.heap.size w w' := by
  have HX := hid h1
  cases hcode : codeB xs with
  | false =>
    rw [flipR_code hcode]
    go_enter Try.func21, Try.ntmps21
    go_wp2_with (go_at_call 31; refine (IsCode_any _ xs _ HX.out).mono ?_; rintro e w' ⟨rfl, rfl⟩)
    go_ret2
    exact ⟨_, rfl, OwnI.nil _ _, Below.refl _ _⟩
  | true =>
  cases hcell : cellB b with
  | false =>
    rw [flipR_cell hcell]
    go_enter Try.func21, Try.ntmps21
    go_wp2_with (first | (go_at_call 31; refine (IsCode_any _ xs _ HX.out).mono ?_; rintro e w' ⟨rfl, rfl⟩) | (go_at_call 139; refine (IsCell_any _ _).mono ?_; rintro e w' ⟨rfl, rfl⟩))
    go_ret2
    exact ⟨_, rfl, OwnI.nil _ _, Below.refl _ _⟩
  | true =>
  rw [flipR_yes hcode hcell]
  have hlen12 := (codeB_true hcode).1
  obtain ⟨ao1, cap1, b1, o1, rfl, ha1, hc1, hn1, hm1⟩ := h1
  obtain ⟨n, hn⟩ : ∃ n, xs.length = n := ⟨_, rfl⟩
  have HN := hid hn
  rw [hn] at ha1 hc1 hn1 hlen12 ⊢
  clear hn
  have HX' : Hid (Ints w (.slice ao1 n cap1) xs) := hid (by rw [← HN.out]; exact HX.out)
  clear HX
  go_enter Try.func21, Try.ntmps21
  go_wp2_with (first | (go_at_call 31; refine (IsCode_any _ xs _ HX'.out).mono ?_; rintro e w' ⟨rfl, rfl⟩) | (go_at_call 139; refine (IsCell_any _ _).mono ?_; rintro e w' ⟨rfl, rfl⟩))
  go_loopw [6, 8, 19] (fun v _ i wr => ∃ k : Nat, k ≤ n ∧ i = .int .i64 k ∧ Hid (OwnI wr w.heap.size v ((xs.take k).map fun c => xorI c b)) ∧ Below w.heap.size w wr) (fun _ _ i _ => n - (intOf i).toNat)
  case atStart => exact ⟨0, by omega, rfl, hid (OwnI.nil _ _), Below.refl _ _⟩
  case round =>
    obtain ⟨k, hk, rfl, HO, hbel⟩ := hrel
    by_cases hlt : k < n
    · obtain ⟨rfl, hb1⟩ := ha1 (by omega)
      have e1 : wr.cell? ⟨b1, o1+k, none⟩ = some (.int .i64 (xs.getD k 0)) := (hbel.cell (by exact hb1)).trans (hc1 k (by omega))
      have hl : ((xs.take k).map fun c => xorI c b).length ≤ 1099511627776 := by rw [List.length_map, List.length_take]; omega
      have HL := hid (show k < xs.length by rw [HN.out]; exact hlt)
      generalize hx : xs.getD k 0 = x at e1
      have HXX := hid hx
      clear hx hc1 ha1
      go_wp2_with (at_builtin; refine wpList_appendI wr rfl _ _ rfl w.heap.size _ _ HO.out rfl (xorI x b) rfl hl hbel.size ?_; intro v' w1 ho' _ hb' _)
      rw [← map_take_snoc (fun c => xorI c b) HL.out HXX.out] at ho'
      have HO' := hid ho'
      have hbel' := hbel.trans hb'
      clear ho' HO hb' hbel e1
      go_wp2
      go_roundw
      case rel => exact ⟨k+1, by omega, by go_num, HO', hbel'⟩
      case measure => simp [intOf]; omega
    · have hO : OwnI wr w.heap.size u6 (xs.map fun c => xorI c b) := by
        have := HO.out
        rw [List.take_of_length_le (by rw [HN.out]; omega)] at this
        exact this
      have HO' := hid hO
      clear hO HO
      go_wp2
      go_ret2
      exact ⟨_, rfl, HO'.out, hbel⟩

set_option maxHeartbeats 1000000 in
theorem specFlipCode_any (v1 : Value) (xs : List Int) (b : Int) (w : World) (h1 : Ints w v1 xs) :
    Calls Try.prog 22 #[v1, .int .i64 b] w fun e w' => ∃ v, e = .returned (.tuple #[v, .bool (flipR xs b).2]) ∧ OwnI w' w.heap.size v (flipR xs b).1 ∧ Below w.heap.size w w' := by
  obtain ⟨n, ao1, cap1, b1, o1, HN, rfl, ha1, hc1, hn1, hm1, HX⟩ := h1.open_
  cases hcode : codeB xs with
  | false =>
    rw [flipR_code hcode]
    go_enter Try.func22, Try.ntmps22
    go_wp2_with (go_at_call 132; refine (l5Code_any _ xs _ HX.out).mono ?_; rintro e w' ⟨rfl, m, rfl⟩)
    go_ret2
    exact ⟨_, rfl, OwnI.lit0 _ _ (Nat.le_refl _), below_drewN ((Below.refl _ _).alloc (Nat.le_refl _) _) _⟩
  | true =>
  cases hcell : cellB b with
  | false =>
    rw [flipR_cell hcell]
    go_enter Try.func22, Try.ntmps22
    go_wp2_with (first | (go_at_call 132; refine (l5Code_any _ xs _ HX.out).mono ?_; rintro e w' ⟨rfl, m, rfl⟩) | (go_at_call 140; refine (l2Cell_any _ _).mono ?_; rintro e w' ⟨rfl, rfl⟩))
    go_ret2
    exact ⟨_, rfl, OwnI.lit0 _ _ (Nat.le_refl _), below_drewN ((Below.refl _ _).alloc (Nat.le_refl _) _) _⟩
  | true =>
  rw [flipR_yes hcode hcell]
  have hlen12 := (codeB_true hcode).1
  rw [HN.out] at hlen12
  go_enter Try.func22, Try.ntmps22
  go_wp2_with (first | (go_at_call 132; refine (l5Code_any _ xs _ HX.out).mono ?_; rintro e w' ⟨rfl, m, rfl⟩) | (go_at_call 140; refine (l2Cell_any _ _).mono ?_; rintro e w' ⟨rfl, rfl⟩))
  go_loopw [6, 7] (fun v i wr => ∃ k : Nat, k ≤ n ∧ i = .int .i64 k ∧ Hid (OwnI wr w.heap.size v ((xs.take k).map fun c => xorI c b)) ∧ Below w.heap.size w wr) (fun _ i _ => n - (intOf i).toNat)
  case atStart => exact ⟨0, by omega, rfl, hid (OwnI.lit0 _ _ (Nat.le_refl _)), below_drewN ((Below.refl _ _).alloc (Nat.le_refl _) _) _⟩
  case round =>
    obtain ⟨k, hk, rfl, HO, hbel⟩ := hrel
    by_cases hlt : k < n
    · obtain ⟨rfl, hb1⟩ := ha1 (by omega)
      have e1 : wr.cell? ⟨b1, o1+k, none⟩ = some (.int .i64 (xs.getD k 0)) := (hbel.cell (by exact hb1)).trans (hc1 k (by omega))
      have hl : ((xs.take k).map fun c => xorI c b).length ≤ 1099511627776 := by rw [List.length_map, List.length_take]; omega
      have HL := hid (show k < xs.length by rw [HN.out]; exact hlt)
      generalize hx : xs.getD k 0 = x at e1
      have HXX := hid hx
      clear hx hc1 ha1
      go_wp2_with (at_builtin; refine wpList_appendI wr rfl _ _ rfl w.heap.size _ _ HO.out rfl (xorI x b) rfl hl hbel.size ?_; intro v' w1 ho' _ hb' _)
      rw [← map_take_snoc (fun c => xorI c b) HL.out HXX.out] at ho'
      have HO' := hid ho'
      have hbel' := hbel.trans hb'
      clear ho' HO hb' hbel e1
      go_wp2
      go_roundw
      case rel => exact ⟨k+1, by omega, by go_num, HO', hbel'⟩
      case measure => simp [intOf]; omega
    · have hO : OwnI wr w.heap.size u6 (xs.map fun c => xorI c b) := by
        have := HO.out
        rw [List.take_of_length_le (by rw [HN.out]; omega)] at this
        exact this
      have HO' := hid hO
      clear hO HO
      go_wp2
      go_ret2
      exact ⟨_, rfl, HO'.out, hbel⟩

end Go.Proofs.Ytfgjaefcfmjleaa
