import Derived.Test.YtbbibngagdpdcaaDoorB3
import Derived.Deep.QuietTactic
import Derived.BigQuiet
import Derived.StillTailTactics
namespace Go.Proofs.YtbbibngagdpdcaaDoor
open Go Go.RowKit
open Go.Shelf

theorem quiet_left {P : Program} {f : FuncId} {args : Array Value} {w : World} {n : Nat} {v : Value}
    (h : Calls P f args (w.drewN n) fun e w' => e = .returned v ∧ w.drewN n = w') : Calls P f args (w.drewN n) fun e w'' => e = .returned v ∧ ∃ m, w'' = w.drewN m :=
  h.mono fun _ _ ⟨he, hm⟩ => ⟨he, n, hm.symm⟩
theorem quiet_add_left {P : Program} {f : FuncId} {args : Array Value} {w : World} {a n : Nat} {v : Value}
    (h : Calls P f args (w.drewN (a + n)) fun e w' => e = .returned v ∧ w.drewN (a + n) = w') :
    Calls P f args (w.drewN (a + n)) fun e w'' => e = .returned v ∧ ∃ m, w'' = w.drewN (a + m) :=
  h.mono fun _ _ ⟨he, hm⟩ => ⟨he, n, hm.symm⟩

theorem blank_to (r : Bool) (c : Int) (w : World) (h : blankB c = r) : Calls Tryd.prog 71 #[.int .u8 c] w fun e w' => e = .returned (.bool r) ∧ w = w' := h ▸ blank_any c w
theorem digit_to (r : Bool) (c : Int) (w : World) (h : digitB c = r) : Calls Tryd.prog 77 #[.int .u8 c] w fun e w' => e = .returned (.bool r) ∧ w = w' := h ▸ digit_any c w
theorem lrest_to (r : Bool) (c : Int) (w : World) (h0 : 0 ≤ c) (h1 : c ≤ 255) (h : restB c = r) : Calls Tryd.prog 78 #[.int .u8 c] w fun e w' => e = .returned (.bool r) ∧ Below w.heap.size w w' := h ▸ byteB_rest c w h0 h1
theorem lsign_to (r : Bool) (c : Int) (w : World) (h0 : 0 ≤ c) (h1 : c ≤ 255) (h : signB c = r) : Calls Tryd.prog 79 #[.int .u8 c] w fun e w' => e = .returned (.bool r) ∧ Below w.heap.size w w' := h ▸ byteB_sign c w h0 h1

theorem below_draw0 (w : World) (n : Nat) : Below w.heap.size w (w.drewN n) := below_draws (Below.refl _ w) n

/-- THE TEXT FROM THE CURSOR ON. -/
theorem ext_prefix (s : ByteArray) (k : Nat) (r : Bool) (p : List UInt8) (h : Lib.hasPrefix (s.data.toList.drop k) p = r) : Lib.hasPrefix (s.extract k s.size).data.toList p = r := by rw [Lib.extract_to_end, h]

set_option maxHeartbeats 1000000 in
theorem next_blank (b : Nat) (s : ByteArray) (k : Nat) (w : World) (hc : Cur w b s k) (hk : k < s.size) (hs : s.size ≤ 140737488351232) (h1 : blankB s[k].toNat = true) :
    Calls Tryd.prog 53 #[.pointer (some ⟨b, 0, none⟩)] w fun e w' => e = .returned (.tuple #[.int .i64 1, .int .i64 ((k + runL blankB (s.data.toList.drop k) : Nat) : Int)]) ∧ Below w.heap.size w w' := by
  have c0 := hc.text
  have c1 := hc.place
  have HC := Lib.hid hc
  have H1 := Lib.hid h1
  clear hc h1
  go_enter Tryd.func53, Tryd.ntmps53
  go_wp2
  go_quiet (fail)
  go_wp2_with (first | (go_at_call 71; refine (blank_to true _ _ H1.out).mono ?_; rintro e w' ⟨rfl, rfl⟩) | (go_at_call 72; (with_reducible refine (run_any 71 _ enters_blank byteB_blank b s k k _ (HC.out.later (below_draw0 _ _)) (by omega) hs).mono ?_); rintro e w' ⟨rfl, hb⟩))
  go_ret2
  exact ⟨rfl, Below.next (below_draw0 _ _) (Nat.le_refl _) hb⟩

set_option maxHeartbeats 1000000 in
theorem next_note (b : Nat) (s : ByteArray) (k : Nat) (w : World) (hc : Cur w b s k) (hk : k < s.size) (hs : s.size ≤ 140737488351232) (h1 : blankB s[k].toNat = false) (h2 : Lib.hasPrefix (s.data.toList.drop k) [40, 42] = true) (h3 : ¬ noteEnd s.data.toList k < 0) :
    Calls Tryd.prog 53 #[.pointer (some ⟨b, 0, none⟩)] w fun e w' => e = .returned (.tuple #[.int .i64 2, .int .i64 (noteEnd s.data.toList k)]) ∧ Below w.heap.size w w' := by
  have c0 := hc.text
  have c1 := hc.place
  have HC := Lib.hid hc
  have H1 := Lib.hid h1
  have H2 := Lib.hid (ext_prefix s k true _ h2)
  have h3' : 0 ≤ noteEnd s.data.toList k := by omega
  clear hc h1 h2 h3
  go_enter Tryd.func53, Tryd.ntmps53
  go_wp2
  go_quiet (fail)
  go_wp2_with (first | (go_at_call 71; refine (blank_to false _ _ H1.out).mono ?_; rintro e w' ⟨rfl, rfl⟩))
  go_quiet ((go_at_call 73; exact quiet_add_left (prefix_to true _ ⟨#[40, 42]⟩ _ H2.out)))
  go_wp2_with (first | (go_at_call 74; (with_reducible refine (note_any b s k _ (HC.out.later (below_draw0 _ _)) (by omega) hs).mono ?_); rintro e w' ⟨rfl, rfl⟩))
  go_ret2
  exact ⟨rfl, below_draw0 _ _⟩

set_option maxHeartbeats 1000000 in
theorem next_open (b : Nat) (s : ByteArray) (k : Nat) (w : World) (hc : Cur w b s k) (hk : k < s.size) (hs : s.size ≤ 140737488351232) (h1 : blankB s[k].toNat = false) (h2 : Lib.hasPrefix (s.data.toList.drop k) [40, 42] = true) (h3 : noteEnd s.data.toList k < 0) :
    Calls Tryd.prog 53 #[.pointer (some ⟨b, 0, none⟩)] w fun e w' => e = .returned (.tuple #[.int .i64 3, .int .i64 (s.size : Int)]) ∧ Below w.heap.size w w' := by
  have c0 := hc.text
  have c1 := hc.place
  have HC := Lib.hid hc
  have H1 := Lib.hid h1
  have H2 := Lib.hid (ext_prefix s k true _ h2)
  clear hc h1 h2
  go_enter Tryd.func53, Tryd.ntmps53
  go_wp2
  go_quiet (fail)
  go_wp2_with (first | (go_at_call 71; refine (blank_to false _ _ H1.out).mono ?_; rintro e w' ⟨rfl, rfl⟩))
  go_quiet ((go_at_call 73; exact quiet_add_left (prefix_to true _ ⟨#[40, 42]⟩ _ H2.out)))
  go_wp2_with (first | (go_at_call 74; (with_reducible refine (note_any b s k _ (HC.out.later (below_draw0 _ _)) (by omega) hs).mono ?_); rintro e w' ⟨rfl, rfl⟩))
  go_quiet (fail)
  go_wp2
  go_ret2
  exact ⟨rfl, below_draws (below_draw0 _ _) _⟩

set_option maxHeartbeats 1000000 in
theorem next_text (b : Nat) (s : ByteArray) (k : Nat) (w : World) (hc : Cur w b s k) (hk : k < s.size) (hs : s.size ≤ 140737488351232) (h1 : blankB s[k].toNat = false) (h2 : Lib.hasPrefix (s.data.toList.drop k) [40, 42] = false) (h4 : ((s[k].toNat : Int) == 34) = true) (h3 : ¬ textGo (s.data.toList.drop (k + 1)) (k + 1) < 0) :
    Calls Tryd.prog 53 #[.pointer (some ⟨b, 0, none⟩)] w fun e w' => e = .returned (.tuple #[.int .i64 5, .int .i64 (textGo (s.data.toList.drop (k + 1)) (k + 1))]) ∧ Below w.heap.size w w' := by
  have c0 := hc.text
  have c1 := hc.place
  have HC := Lib.hid hc
  have H1 := Lib.hid h1
  have H2 := Lib.hid (ext_prefix s k false _ h2)
  have h3' : 0 ≤ textGo (s.data.toList.drop (k + 1)) (k + 1) := by omega
  clear hc h1 h2 h3
  go_enter Tryd.func53, Tryd.ntmps53
  go_wp2
  go_quiet (fail)
  go_wp2_with (first | (go_at_call 71; refine (blank_to false _ _ H1.out).mono ?_; rintro e w' ⟨rfl, rfl⟩))
  go_quiet ((go_at_call 73; exact quiet_add_left (prefix_to false _ ⟨#[40, 42]⟩ _ H2.out)))
  go_wp2_with (first | (go_at_call 75; (with_reducible refine (text_any b s k _ (HC.out.later (below_draw0 _ _)) hk hs).mono ?_); rintro e w' ⟨rfl, rfl⟩))
  go_ret2
  exact ⟨rfl, below_draw0 _ _⟩

set_option maxHeartbeats 1000000 in
theorem next_badtext (b : Nat) (s : ByteArray) (k : Nat) (w : World) (hc : Cur w b s k) (hk : k < s.size) (hs : s.size ≤ 140737488351232) (h1 : blankB s[k].toNat = false) (h2 : Lib.hasPrefix (s.data.toList.drop k) [40, 42] = false) (h4 : ((s[k].toNat : Int) == 34) = true) (h3 : textGo (s.data.toList.drop (k + 1)) (k + 1) < 0) :
    Calls Tryd.prog 53 #[.pointer (some ⟨b, 0, none⟩)] w fun e w' => e = .returned (.tuple #[.int .i64 3, .int .i64 ((k + runL (fun c => !decide (c = 10)) (s.data.toList.drop k) : Nat) : Int)]) ∧ Below w.heap.size w w' := by
  have c0 := hc.text
  have c1 := hc.place
  have HC := Lib.hid hc
  have H1 := Lib.hid h1
  have H2 := Lib.hid (ext_prefix s k false _ h2)
  clear hc h1 h2
  go_enter Tryd.func53, Tryd.ntmps53
  go_wp2
  go_quiet (fail)
  go_wp2_with (first | (go_at_call 71; refine (blank_to false _ _ H1.out).mono ?_; rintro e w' ⟨rfl, rfl⟩))
  go_quiet ((go_at_call 73; exact quiet_add_left (prefix_to false _ ⟨#[40, 42]⟩ _ H2.out)))
  go_wp2_with (first | (go_at_call 75; (with_reducible refine (text_any b s k _ (HC.out.later (below_draw0 _ _)) hk hs).mono ?_); rintro e w' ⟨rfl, rfl⟩) | (go_at_call 76; (with_reducible refine (line_any b s k _ (HC.out.later (below_draw0 _ _)) (by omega) hs).mono ?_); rintro e w' ⟨rfl, hb⟩))
  go_ret2
  exact ⟨rfl, Below.next (below_draw0 _ _) (Nat.le_refl _) hb⟩

set_option maxHeartbeats 1000000 in
theorem next_badint (b : Nat) (s : ByteArray) (k : Nat) (w : World) (hc : Cur w b s k) (hk : k < s.size) (hs : s.size ≤ 140737488351232) (h1 : blankB s[k].toNat = false) (h2 : Lib.hasPrefix (s.data.toList.drop k) [40, 42] = false) (h4 : ((s[k].toNat : Int) == 34) = false) (h5 : digitB s[k].toNat = true) (h6 : runL digitB (s.data.toList.drop k) < runL restB (s.data.toList.drop k)) :
    Calls Tryd.prog 53 #[.pointer (some ⟨b, 0, none⟩)] w fun e w' => e = .returned (.tuple #[.int .i64 3, .int .i64 ((k + runL restB (s.data.toList.drop k) : Nat) : Int)]) ∧ Below w.heap.size w w' := by
  have c0 := hc.text
  have c1 := hc.place
  have HC := Lib.hid hc
  have H1 := Lib.hid h1
  have H2 := Lib.hid (ext_prefix s k false _ h2)
  have H5 := Lib.hid h5
  clear hc h1 h2 h5
  obtain ⟨D, hD⟩ : ∃ D, runL digitB (s.data.toList.drop k) = D := ⟨_, rfl⟩
  obtain ⟨E, hE⟩ : ∃ E, runL restB (s.data.toList.drop k) = E := ⟨_, rfl⟩
  rw [hD, hE] at h6
  rw [hE]
  have HD := Lib.hid hD
  have HE := Lib.hid hE
  clear hD hE
  go_enter Tryd.func53, Tryd.ntmps53
  go_wp2
  go_quiet (fail)
  go_wp2_with (first | (go_at_call 71; refine (blank_to false _ _ H1.out).mono ?_; rintro e w' ⟨rfl, rfl⟩))
  go_quiet ((go_at_call 73; exact quiet_add_left (prefix_to false _ ⟨#[40, 42]⟩ _ H2.out)))
  go_wp2_with (first | (go_at_call 77; refine (digit_to true _ _ H5.out).mono ?_; rintro e w' ⟨rfl, rfl⟩))
  refine (run_any 77 _ enters_digit byteB_digit b s k k _ (HC.out.later (below_draw0 _ _)) (by omega) hs).mono ?_
  rintro e w1 ⟨rfl, hb⟩
  rw [HD.out]
  have hB := Lib.hid (Below.next (below_draw0 _ _) (Nat.le_refl _) hb)
  have hc1 := HC.out.later hB.out
  have c0' := hc1.text
  have c1' := hc1.place
  clear hb hc1
  dsimp only
  go_wp2_with fail
  refine (run_any 78 _ enters_lrest byteB_rest b s k k _ (HC.out.later hB.out) (by omega) hs).mono ?_
  rintro e w2 ⟨rfl, hb2⟩
  rw [HE.out]
  have hB2 := Lib.hid (Below.next hB.out (Nat.le_refl _) hb2)
  clear hb2
  dsimp only
  go_wp2
  go_ret2
  exact ⟨rfl, hB2.out⟩

set_option maxHeartbeats 1000000 in
theorem next_int (b : Nat) (s : ByteArray) (k : Nat) (w : World) (hc : Cur w b s k) (hk : k < s.size) (hs : s.size ≤ 140737488351232) (h1 : blankB s[k].toNat = false) (h2 : Lib.hasPrefix (s.data.toList.drop k) [40, 42] = false) (h4 : ((s[k].toNat : Int) == 34) = false) (h5 : digitB s[k].toNat = true) (h6 : runL restB (s.data.toList.drop k) ≤ runL digitB (s.data.toList.drop k)) :
    Calls Tryd.prog 53 #[.pointer (some ⟨b, 0, none⟩)] w fun e w' => e = .returned (.tuple #[.int .i64 4, .int .i64 ((k + runL restB (s.data.toList.drop k) : Nat) : Int)]) ∧ Below w.heap.size w w' := by
  have c0 := hc.text
  have c1 := hc.place
  have HC := Lib.hid hc
  have H1 := Lib.hid h1
  have H2 := Lib.hid (ext_prefix s k false _ h2)
  have H5 := Lib.hid h5
  clear hc h1 h2 h5
  obtain ⟨D, hD⟩ : ∃ D, runL digitB (s.data.toList.drop k) = D := ⟨_, rfl⟩
  obtain ⟨E, hE⟩ : ∃ E, runL restB (s.data.toList.drop k) = E := ⟨_, rfl⟩
  rw [hD, hE] at h6
  rw [hE]
  have HD := Lib.hid hD
  have HE := Lib.hid hE
  clear hD hE
  go_enter Tryd.func53, Tryd.ntmps53
  go_wp2
  go_quiet (fail)
  go_wp2_with (first | (go_at_call 71; refine (blank_to false _ _ H1.out).mono ?_; rintro e w' ⟨rfl, rfl⟩))
  go_quiet ((go_at_call 73; exact quiet_add_left (prefix_to false _ ⟨#[40, 42]⟩ _ H2.out)))
  go_wp2_with (first | (go_at_call 77; refine (digit_to true _ _ H5.out).mono ?_; rintro e w' ⟨rfl, rfl⟩))
  refine (run_any 77 _ enters_digit byteB_digit b s k k _ (HC.out.later (below_draw0 _ _)) (by omega) hs).mono ?_
  rintro e w1 ⟨rfl, hb⟩
  rw [HD.out]
  have hB := Lib.hid (Below.next (below_draw0 _ _) (Nat.le_refl _) hb)
  have hc1 := HC.out.later hB.out
  have c0' := hc1.text
  have c1' := hc1.place
  clear hb hc1
  dsimp only
  go_wp2_with fail
  refine (run_any 78 _ enters_lrest byteB_rest b s k k _ (HC.out.later hB.out) (by omega) hs).mono ?_
  rintro e w2 ⟨rfl, hb2⟩
  rw [HE.out]
  have hB2 := Lib.hid (Below.next hB.out (Nat.le_refl _) hb2)
  clear hb2
  dsimp only
  go_wp2
  go_ret2
  exact ⟨rfl, hB2.out⟩
end Go.Proofs.YtbbibngagdpdcaaDoor
