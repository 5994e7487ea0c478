import Derived.Test.YtbbibngagdpdcaaDoorB4
namespace Go.Proofs.YtbbibngagdpdcaaDoor
open Go Go.RowKit
open Go.Shelf

theorem ext_size (s : ByteArray) (a b : Nat) (h : b ≤ s.size) : (s.extract a b).size ≤ s.size := by
  rw [ByteArray.size_extract]; omega

/-- The kind 0 is bad. -/
def badOr (K : Int) : Int := if (K == 0) = true then 3 else K
theorem badOr_yes (K : Int) (h : (K == 0) = true) : (3 : Int) = badOr K := by rw [badOr, if_pos h]
theorem badOr_no (K : Int) (h : (K == 0) = false) : K = badOr K := by rw [badOr, if_neg (by rw [h]; decide)]
theorem ret_ii {a b c d : Int} (h : a = c) (h' : b = d) : Ending.returned (.tuple #[.int .i64 a, .int .i64 b]) = .returned (.tuple #[.int .i64 c, .int .i64 d]) := by rw [h, h']

set_option maxHeartbeats 1000000 in
set_option maxRecDepth 100000 in
theorem next_sign (b : Nat) (s : ByteArray) (k : Nat) (w : World) (hc : Cur w b s k) (hk : k < s.size) (hs : s.size ≤ 140737488351232) (h1 : blankB s[k].toNat = false) (h2 : Lib.hasPrefix (s.data.toList.drop k) [40, 42] = false) (h4 : ((s[k].toNat : Int) == 34) = false) (h5 : digitB s[k].toNat = false) (h6 : signB s[k].toNat = true) (E : Nat) (hE : k + runL signB (s.data.toList.drop k) = E) (hE1 : k ≤ E) (hE2 : E ≤ s.size) (K : Int) (hK : kindL (s.extract k E).data.toList = K) :
    Calls Tryd.prog 53 #[.pointer (some ⟨b, 0, none⟩)] w fun e w' => e = .returned (.tuple #[.int .i64 (badOr K), .int .i64 (E : Int)]) ∧ Below w.heap.size w w' := by
  have c0 := hc.text
  have c1 := hc.place
  have HC := Lib.hid hc
  have H1 := Lib.hid h1
  have H2 := Lib.hid (ext_prefix s k false _ h2)
  have H5 := Lib.hid h5
  have H6 := Lib.hid h6
  have HE := Lib.hid hE
  have hu : (s[k].toNat : Int) ≤ 255 := by have := s[k].toNat_lt; omega
  have hEs : (s.extract k E).size ≤ 140737488351232 := Nat.le_trans (ext_size s k E hE2) hs
  clear hc h1 h2 h5 h6 hE
  go_enter Tryd.func53, Tryd.ntmps53
  go_wp2
  go_quiet (fail)
  go_wp2_with (first | (go_at_call 71; refine (blank_to false _ _ H1.out).mono ?_; rintro e w' ⟨rfl, rfl⟩))
  go_quiet ((go_at_call 73; exact quiet_add_left (prefix_to false _ ⟨#[40, 42]⟩ _ H2.out)))
  go_wp2_with (first | (go_at_call 77; refine (digit_to false _ _ H5.out).mono ?_; rintro e w' ⟨rfl, rfl⟩))
  refine (lsign_to true _ _ (by omega) hu H6.out).mono ?_
  rintro e w1 ⟨rfl, hb⟩
  have hB := Lib.hid (Below.next (below_draw0 _ _) (Nat.le_refl _) hb)
  have hc1 := HC.out.later hB.out
  have c0' := hc1.text
  have c1' := hc1.place
  clear hb hc1
  dsimp only
  go_wp2_with fail
  refine (run_any 79 _ enters_lsign byteB_sign b s k k _ (HC.out.later hB.out) (by omega) hs).mono ?_
  rintro e w2 ⟨rfl, hb2⟩
  rw [HE.out]
  have hB2 := Lib.hid (Below.next hB.out (Nat.le_refl _) hb2)
  have hc2 := HC.out.later hB2.out
  have c0'' := hc2.text
  have c1'' := hc2.place
  clear hb2 hc2 c0 c1 c0' c1'
  dsimp only
  go_wp2_with fail
  go_still_tail 10, (by kernel_rfl)
  have hcall : ∀ W, Calls Tryd.prog 14 #[.string (s.extract k E)] W fun e w' => e = .returned (.int .i64 K) ∧ Below W.heap.size W w' := fun W => by have := kind_any (s.extract k E) W hEs; rw [hK] at this; exact this
  have HK := Lib.hid hK
  have HCK := Lib.hid hcall
  clear hK hcall
  go_wp2_with (go_at_call 14; refine (HCK.out _).mono ?_; rintro e w3 ⟨rfl, hb3⟩)
  all_goals
    go_ret2
    refine ⟨?_, Below.next (below_draws hB2.out 1) (Nat.le_refl _) hb3⟩
    exact ret_ii (by first | exact badOr_yes K (by assumption) | exact badOr_no K (by assumption)) rfl

set_option maxHeartbeats 1000000 in
set_option maxRecDepth 100000 in
theorem next_rest (b : Nat) (s : ByteArray) (k : Nat) (w : World) (hc : Cur w b s k) (hk : k < s.size) (hs : s.size ≤ 140737488351232) (h1 : blankB s[k].toNat = false) (h2 : Lib.hasPrefix (s.data.toList.drop k) [40, 42] = false) (h4 : ((s[k].toNat : Int) == 34) = false) (h5 : digitB s[k].toNat = false) (h6 : signB s[k].toNat = false) (h7 : restB s[k].toNat = true) (E : Nat) (hE : k + runL restB (s.data.toList.drop k) = E) (hE1 : k ≤ E) (hE2 : E ≤ s.size) (K : Int) (hK : kindL (s.extract k E).data.toList = K) :
    Calls Tryd.prog 53 #[.pointer (some ⟨b, 0, none⟩)] w fun e w' => e = .returned (.tuple #[.int .i64 (badOr K), .int .i64 (E : Int)]) ∧ Below w.heap.size w w' := by
  have c0 := hc.text
  have c1 := hc.place
  have HC := Lib.hid hc
  have H1 := Lib.hid h1
  have H2 := Lib.hid (ext_prefix s k false _ h2)
  have H5 := Lib.hid h5
  have H6 := Lib.hid h6
  have HE := Lib.hid hE
  have hu : (s[k].toNat : Int) ≤ 255 := by have := s[k].toNat_lt; omega
  have hEs : (s.extract k E).size ≤ 140737488351232 := Nat.le_trans (ext_size s k E hE2) hs
  have H7 := Lib.hid h7
  clear h7
  clear hc h1 h2 h5 h6 hE
  go_enter Tryd.func53, Tryd.ntmps53
  go_wp2
  go_quiet (fail)
  go_wp2_with (first | (go_at_call 71; refine (blank_to false _ _ H1.out).mono ?_; rintro e w' ⟨rfl, rfl⟩))
  go_quiet ((go_at_call 73; exact quiet_add_left (prefix_to false _ ⟨#[40, 42]⟩ _ H2.out)))
  go_wp2_with (first | (go_at_call 77; refine (digit_to false _ _ H5.out).mono ?_; rintro e w' ⟨rfl, rfl⟩))
  refine (lsign_to false _ _ (by omega) hu H6.out).mono ?_
  rintro e w1 ⟨rfl, hb⟩
  have hB := Lib.hid (Below.next (below_draw0 _ _) (Nat.le_refl _) hb)
  have hc1 := HC.out.later hB.out
  have c0' := hc1.text
  have c1' := hc1.place
  clear hb hc1
  dsimp only
  go_wp2_with fail
  refine (lrest_to true _ _ (by omega) hu H7.out).mono ?_
  rintro e w1' ⟨rfl, hb'⟩
  have hB' := Lib.hid (Below.next hB.out (Nat.le_refl _) hb')
  have hc1' := HC.out.later hB'.out
  have d0 := hc1'.text
  have d1 := hc1'.place
  clear hb' hc1'
  dsimp only
  go_wp2_with fail
  refine (run_any 78 _ enters_lrest byteB_rest b s k k _ (HC.out.later hB'.out) (by omega) hs).mono ?_
  rintro e w2 ⟨rfl, hb2⟩
  rw [HE.out]
  have hB2 := Lib.hid (Below.next hB'.out (Nat.le_refl _) hb2)
  have hc2 := HC.out.later hB2.out
  have c0'' := hc2.text
  have c1'' := hc2.place
  clear hb2 hc2 c0 c1 c0' c1' d0 d1
  dsimp only
  go_wp2_with fail
  go_still_tail 10, (by kernel_rfl)
  have hcall : ∀ W, Calls Tryd.prog 14 #[.string (s.extract k E)] W fun e w' => e = .returned (.int .i64 K) ∧ Below W.heap.size W w' := fun W => by have := kind_any (s.extract k E) W hEs; rw [hK] at this; exact this
  have HK := Lib.hid hK
  have HCK := Lib.hid hcall
  clear hK hcall
  go_wp2_with (go_at_call 14; refine (HCK.out _).mono ?_; rintro e w3 ⟨rfl, hb3⟩)
  all_goals
    go_ret2
    refine ⟨?_, Below.next (below_draws hB2.out 1) (Nat.le_refl _) hb3⟩
    exact ret_ii (by first | exact badOr_yes K (by assumption) | exact badOr_no K (by assumption)) rfl

set_option maxHeartbeats 1000000 in
set_option maxRecDepth 100000 in
theorem next_else (b : Nat) (s : ByteArray) (k : Nat) (w : World) (hc : Cur w b s k) (hk : k < s.size) (hs : s.size ≤ 140737488351232) (h1 : blankB s[k].toNat = false) (h2 : Lib.hasPrefix (s.data.toList.drop k) [40, 42] = false) (h4 : ((s[k].toNat : Int) == 34) = false) (h5 : digitB s[k].toNat = false) (h6 : signB s[k].toNat = false) (h7 : restB s[k].toNat = false) (E : Nat) (hE : E = k + 1) (hE2 : E ≤ s.size) (K : Int) (hK : kindL (s.extract k E).data.toList = K) :
    Calls Tryd.prog 53 #[.pointer (some ⟨b, 0, none⟩)] w fun e w' => e = .returned (.tuple #[.int .i64 (badOr K), .int .i64 (E : Int)]) ∧ Below w.heap.size w w' := by
  have c0 := hc.text
  have c1 := hc.place
  have HC := Lib.hid hc
  have H1 := Lib.hid h1
  have H2 := Lib.hid (ext_prefix s k false _ h2)
  have H5 := Lib.hid h5
  have H6 := Lib.hid h6
  have hu : (s[k].toNat : Int) ≤ 255 := by have := s[k].toNat_lt; omega
  have hEs : (s.extract k E).size ≤ 140737488351232 := Nat.le_trans (ext_size s k E hE2) hs
  have H7 := Lib.hid h7
  clear h7
  have HE := Lib.hid hE
  have hkE : k ≤ E := by omega
  clear hc h1 h2 h5 h6 hE
  go_enter Tryd.func53, Tryd.ntmps53
  go_wp2
  go_quiet (fail)
  go_wp2_with (first | (go_at_call 71; refine (blank_to false _ _ H1.out).mono ?_; rintro e w' ⟨rfl, rfl⟩))
  go_quiet ((go_at_call 73; exact quiet_add_left (prefix_to false _ ⟨#[40, 42]⟩ _ H2.out)))
  go_wp2_with (first | (go_at_call 77; refine (digit_to false _ _ H5.out).mono ?_; rintro e w' ⟨rfl, rfl⟩))
  refine (lsign_to false _ _ (by omega) hu H6.out).mono ?_
  rintro e w1 ⟨rfl, hb⟩
  have hB := Lib.hid (Below.next (below_draw0 _ _) (Nat.le_refl _) hb)
  have hc1 := HC.out.later hB.out
  have c0' := hc1.text
  have c1' := hc1.place
  clear hb hc1
  dsimp only
  go_wp2_with fail
  refine (lrest_to false _ _ (by omega) hu H7.out).mono ?_
  rintro e w1' ⟨rfl, hb'⟩
  have hB' := Lib.hid (Below.next hB.out (Nat.le_refl _) hb')
  have hc1' := HC.out.later hB'.out
  have d0 := hc1'.text
  have d1 := hc1'.place
  clear hb' hc1'
  dsimp only
  go_wp2_with fail
  rw [show (k : Int) + 1 = (E : Int) from by have := HE.out; omega]
  clear c0 c1 c0' c1'
  go_still_tail 10, (by kernel_rfl)
  have hcall : ∀ W, Calls Tryd.prog 14 #[.string (s.extract k E)] W fun e w' => e = .returned (.int .i64 K) ∧ Below W.heap.size W w' := fun W => by have := kind_any (s.extract k E) W hEs; rw [hK] at this; exact this
  have HK := Lib.hid hK
  have HCK := Lib.hid hcall
  clear hK hcall
  go_wp2_with (go_at_call 14; refine (HCK.out _).mono ?_; rintro e w3 ⟨rfl, hb3⟩)
  all_goals
    go_ret2
    refine ⟨?_, Below.next (below_draws hB'.out 1) (Nat.le_refl _) hb3⟩
    exact ret_ii (by first | exact badOr_yes K (by assumption) | exact badOr_no K (by assumption)) rfl
end Go.Proofs.YtbbibngagdpdcaaDoor
