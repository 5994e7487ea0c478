/-
  PROVED HERE: a part of the proof of the card 'SpellTellsCardSaid': what functions of the program, or of the document's packages, that SpellTells reaches compute (texts B3, B4). CONDITIONS: each theorem's own.
-/
import Derived.Test.YtbbibngagdpdcaaGreatDoorM06
import Derived.Deep.QuietTactic
import Derived.BigQuiet
import Derived.StillTailTactics
namespace Go.Proofs.YtbbibngagdpdcaaGreatDoor
open Go Go.RowKit
open Go.Shelf

theorem contains1_to (r : Bool) (t x : ByteArray) (c : UInt8) (w : World) (hx : x.data.toList = [c]) (hr : t.data.toList.contains c = r) :
    Calls Tryz.prog 51 #[.string t, .string x] w fun e w' => e = .returned (.bool r) ∧ w = w' := by
  obtain rfl : x = ⟨#[c]⟩ := by
    cases x with
    | mk a => exact congrArg ByteArray.mk (Array.toList_inj.1 hx)
  refine (Tryz.strings_Contains_one t c w).mono ?_
  rintro e w' ⟨rfl, rfl⟩
  exact ⟨ret_bool (by rw [← hr, Lib.contains_iff_indexByte]), rfl⟩

def escB (c : UInt8) : Bool := ([34, 92, 110, 116] : List UInt8).contains c

/-- WHERE A TEXT ENDS (-1: nowhere); the bytes from place k on. -/
def textGo : List UInt8 → Nat → Int
  | [], _ => -1
  | c :: r, k =>
    if ((c.toNat : Int) == 34) = true then (k : Int) + 1
    else if ((c.toNat : Int) == 10) = true then -1
    else if ((c.toNat : Int) == 92) = true then (match r with | [] => -1 | d :: r' => if escB d then textGo r' (k + 2) else -1)
    else textGo r (k + 1)

theorem textGo_cons (c : UInt8) (r : List UInt8) (k : Nat) : textGo (c :: r) k =
    (if ((c.toNat : Int) == 34) = true then (k : Int) + 1
    else if ((c.toNat : Int) == 10) = true then -1
    else if ((c.toNat : Int) == 92) = true then (match r with | [] => -1 | d :: r' => if escB d then textGo r' (k + 2) else -1)
    else textGo r (k + 1)) := by
  cases r <;> simp only [textGo]

theorem ext_one (s : ByteArray) (k : Nat) (h : k < s.size) : (s.extract k (k + 1)).data.toList = [s[k]] := by
  rw [Lib.extract_data, drop_cons s k h, show k + 1 - k = 1 by omega]
  rfl

set_option maxHeartbeats 4000000 in
theorem text_any (b : Nat) (s : ByteArray) (at_ : Nat) (w : World) (hc : Cur w b s at_) (ha : at_ < s.size) (hs : s.size ≤ 140737488351232) :
    Calls Tryz.prog 96 #[.pointer (some ⟨b, 0, none⟩)] w fun e w' => e = .returned (.int .i64 (textGo (s.data.toList.drop (at_ + 1)) (at_ + 1))) ∧ w = w' := by
  have c0 := hc.text
  have c1 := hc.place
  clear hc
  obtain ⟨R, hR⟩ : ∃ R, textGo (s.data.toList.drop (at_ + 1)) (at_ + 1) = R := ⟨_, rfl⟩
  have HR := Lib.hid hR
  rw [hR]
  clear hR
  go_enter Tryz.func96, Tryz.ntmps96
  go_wp2
  go_loopg [3] (s.size + 1) (fun g s3 wr => ∃ (k : Nat) (x : Int), s3 = .int .i64 x ∧ x = k ∧ k ≤ s.size ∧ s.size - k < g ∧ wr = w ∧ Hid (textGo (s.data.toList.drop k) k = R))
  case atStart => exact ⟨at_ + 1, _, rfl, by omega, by omega, by omega, rfl, HR.out⟩
  case round =>
    obtain ⟨k, x, rfl, rfl, hk, hg, rfl, hJ⟩ := hrel
    clear HR c1
    have hj := hJ.out
    clear hJ
    by_cases hlt : k < s.size
    · rw [drop_cons s k hlt, textGo_cons] at hj
      cases h1 : ((s[k].toNat : Int) == 34) with
      | true =>
        rw [if_pos h1] at hj
        have HN := Lib.hid hj
        clear hj
        go_wp2
        go_ret
        exact ⟨ret_i64 HN.out, rfl⟩
      | false =>
        rw [if_neg (by rw [h1]; decide)] at hj
        cases h2 : ((s[k].toNat : Int) == 10) with
        | true =>
          rw [if_pos h2] at hj
          have HN := Lib.hid hj
          clear hj
          go_wp2
          go_ret
          exact ⟨ret_i64 HN.out, rfl⟩
        | false =>
          rw [if_neg (by rw [h2]; decide)] at hj
          cases h3 : ((s[k].toNat : Int) == 92) with
          | true =>
            rw [if_pos h3] at hj
            by_cases hlt1 : k + 1 < s.size
            · rw [drop_cons s (k + 1) hlt1] at hj
              cases h4 : escB s[k + 1] with
              | true =>
                simp only [h4, if_true] at hj
                have HN := Lib.hid hj
                have H4 := Lib.hid h4
                clear hj h4
                go_wp2_with (go_at_call 51; (refine (contains1_to true ⟨#[34, 92, 110, 116]⟩ _ _ _ (ext_one s (k + 1) hlt1) H4.out).mono ?_); rintro e w' ⟨rfl, rfl⟩)
                go_roundg (s.size + 1 - (k + 2))
                case measure => omega
                case rel => exact ⟨k + 2, _, rfl, by omega, by omega, by omega, rfl, HN⟩
              | false =>
                simp only [h4, Bool.false_eq_true, if_false] at hj
                have HN := Lib.hid hj
                have H4 := Lib.hid h4
                clear hj h4
                go_wp2_with (go_at_call 51; (refine (contains1_to false ⟨#[34, 92, 110, 116]⟩ _ _ _ (ext_one s (k + 1) hlt1) H4.out).mono ?_); rintro e w' ⟨rfl, rfl⟩)
                go_ret
                exact ⟨ret_i64 HN.out, rfl⟩
            · rw [List.drop_eq_nil_of_le (by simp; omega)] at hj
              have HN := Lib.hid hj
              clear hj
              go_wp2
              go_ret
              exact ⟨ret_i64 HN.out, rfl⟩
          | false =>
            rw [if_neg (by rw [h3]; decide)] at hj
            have HN := Lib.hid hj
            clear hj
            go_wp2
            go_roundg (s.size + 1 - (k + 1))
            case measure => omega
            case rel => exact ⟨k + 1, _, rfl, by omega, by omega, by omega, rfl, HN⟩
    · rw [List.drop_eq_nil_of_le (by simp; omega), textGo] at hj
      have HN := Lib.hid hj
      clear hj
      go_wp2
      go_ret
      exact ⟨ret_i64 HN.out, rfl⟩

theorem line_any (b : Nat) (s : ByteArray) (at_ : Nat) (w : World) (hc : Cur w b s at_) (ha : at_ ≤ s.size) (hs : s.size ≤ 140737488351232) :
    Calls Tryz.prog 97 #[.pointer (some ⟨b, 0, none⟩)] w fun e w' => e = .returned (.int .i64 ((at_ + runL (fun c => !decide (c = 10)) (s.data.toList.drop at_) : Nat) : Int)) ∧ Below w.heap.size w w' := by
  have c0 := hc.text
  have c1 := hc.place
  have HC := Lib.hid hc
  clear hc
  go_enter Tryz.func97, Tryz.ntmps97
  go_wp2_with (go_at_call 93; refine (run_any 114 _ enters_line byteB_line b s at_ at_ _ HC.out ha hs).mono ?_; rintro e w' ⟨rfl, hb⟩)
  go_ret
  exact ⟨rfl, hb⟩
end Go.Proofs.YtbbibngagdpdcaaGreatDoor

namespace Go.Proofs.YtbbibngagdpdcaaGreatDoor
open Go Go.RowKit
open Go.Shelf

theorem quiet_left {P : Program} {f : FuncId} {args : Array Value} {w : World} {n : Nat} {v : Value}
    (h : Calls P f args (w.drewN n) fun e w' => e = .returned v ∧ w.drewN n = w') : Calls P f args (w.drewN n) fun e w'' => e = .returned v ∧ ∃ m, w'' = w.drewN m :=
  h.mono fun _ _ ⟨he, hm⟩ => ⟨he, n, hm.symm⟩
theorem quiet_add_left {P : Program} {f : FuncId} {args : Array Value} {w : World} {a n : Nat} {v : Value}
    (h : Calls P f args (w.drewN (a + n)) fun e w' => e = .returned v ∧ w.drewN (a + n) = w') :
    Calls P f args (w.drewN (a + n)) fun e w'' => e = .returned v ∧ ∃ m, w'' = w.drewN (a + m) :=
  h.mono fun _ _ ⟨he, hm⟩ => ⟨he, n, hm.symm⟩

theorem blank_to (r : Bool) (c : Int) (w : World) (h : blankB c = r) : Calls Tryz.prog 92 #[.int .u8 c] w fun e w' => e = .returned (.bool r) ∧ w = w' := h ▸ blank_any c w
theorem digit_to (r : Bool) (c : Int) (w : World) (h : digitB c = r) : Calls Tryz.prog 98 #[.int .u8 c] w fun e w' => e = .returned (.bool r) ∧ w = w' := h ▸ digit_any c w
theorem lrest_to (r : Bool) (c : Int) (w : World) (h0 : 0 ≤ c) (h1 : c ≤ 255) (h : restB c = r) : Calls Tryz.prog 99 #[.int .u8 c] w fun e w' => e = .returned (.bool r) ∧ Below w.heap.size w w' := h ▸ byteB_rest c w h0 h1
theorem lsign_to (r : Bool) (c : Int) (w : World) (h0 : 0 ≤ c) (h1 : c ≤ 255) (h : signB c = r) : Calls Tryz.prog 100 #[.int .u8 c] w fun e w' => e = .returned (.bool r) ∧ Below w.heap.size w w' := h ▸ byteB_sign c w h0 h1

theorem below_draw0 (w : World) (n : Nat) : Below w.heap.size w (w.drewN n) := below_draws (Below.refl _ w) n

/-- THE TEXT FROM THE CURSOR ON. -/
theorem ext_prefix (s : ByteArray) (k : Nat) (r : Bool) (p : List UInt8) (h : Lib.hasPrefix (s.data.toList.drop k) p = r) : Lib.hasPrefix (s.extract k s.size).data.toList p = r := by rw [Lib.extract_to_end, h]

set_option maxHeartbeats 1000000 in
theorem next_blank (b : Nat) (s : ByteArray) (k : Nat) (w : World) (hc : Cur w b s k) (hk : k < s.size) (hs : s.size ≤ 140737488351232) (h1 : blankB s[k].toNat = true) :
    Calls Tryz.prog 70 #[.pointer (some ⟨b, 0, none⟩)] w fun e w' => e = .returned (.tuple #[.int .i64 1, .int .i64 ((k + runL blankB (s.data.toList.drop k) : Nat) : Int)]) ∧ Below w.heap.size w w' := by
  have c0 := hc.text
  have c1 := hc.place
  have HC := Lib.hid hc
  have H1 := Lib.hid h1
  clear hc h1
  go_enter Tryz.func70, Tryz.ntmps70
  go_wp2
  go_quiet (fail)
  go_wp2_with (first | (go_at_call 92; refine (blank_to true _ _ H1.out).mono ?_; rintro e w' ⟨rfl, rfl⟩) | (go_at_call 93; (with_reducible refine (run_any 92 _ enters_blank byteB_blank b s k k _ (HC.out.later (below_draw0 _ _)) (by omega) hs).mono ?_); rintro e w' ⟨rfl, hb⟩))
  go_ret2
  exact ⟨rfl, Below.next (below_draw0 _ _) (Nat.le_refl _) hb⟩

set_option maxHeartbeats 1000000 in
theorem next_note (b : Nat) (s : ByteArray) (k : Nat) (w : World) (hc : Cur w b s k) (hk : k < s.size) (hs : s.size ≤ 140737488351232) (h1 : blankB s[k].toNat = false) (h2 : Lib.hasPrefix (s.data.toList.drop k) [40, 42] = true) (h3 : ¬ noteEnd s.data.toList k < 0) :
    Calls Tryz.prog 70 #[.pointer (some ⟨b, 0, none⟩)] w fun e w' => e = .returned (.tuple #[.int .i64 2, .int .i64 (noteEnd s.data.toList k)]) ∧ Below w.heap.size w w' := by
  have c0 := hc.text
  have c1 := hc.place
  have HC := Lib.hid hc
  have H1 := Lib.hid h1
  have H2 := Lib.hid (ext_prefix s k true _ h2)
  have h3' : 0 ≤ noteEnd s.data.toList k := by omega
  clear hc h1 h2 h3
  go_enter Tryz.func70, Tryz.ntmps70
  go_wp2
  go_quiet (fail)
  go_wp2_with (first | (go_at_call 92; refine (blank_to false _ _ H1.out).mono ?_; rintro e w' ⟨rfl, rfl⟩))
  go_quiet ((go_at_call 94; exact quiet_add_left (prefix_to true _ ⟨#[40, 42]⟩ _ H2.out)))
  go_wp2_with (first | (go_at_call 95; (with_reducible refine (note_any b s k _ (HC.out.later (below_draw0 _ _)) (by omega) hs).mono ?_); rintro e w' ⟨rfl, rfl⟩))
  go_ret2
  exact ⟨rfl, below_draw0 _ _⟩

set_option maxHeartbeats 1000000 in
theorem next_open (b : Nat) (s : ByteArray) (k : Nat) (w : World) (hc : Cur w b s k) (hk : k < s.size) (hs : s.size ≤ 140737488351232) (h1 : blankB s[k].toNat = false) (h2 : Lib.hasPrefix (s.data.toList.drop k) [40, 42] = true) (h3 : noteEnd s.data.toList k < 0) :
    Calls Tryz.prog 70 #[.pointer (some ⟨b, 0, none⟩)] w fun e w' => e = .returned (.tuple #[.int .i64 3, .int .i64 (s.size : Int)]) ∧ Below w.heap.size w w' := by
  have c0 := hc.text
  have c1 := hc.place
  have HC := Lib.hid hc
  have H1 := Lib.hid h1
  have H2 := Lib.hid (ext_prefix s k true _ h2)
  clear hc h1 h2
  go_enter Tryz.func70, Tryz.ntmps70
  go_wp2
  go_quiet (fail)
  go_wp2_with (first | (go_at_call 92; refine (blank_to false _ _ H1.out).mono ?_; rintro e w' ⟨rfl, rfl⟩))
  go_quiet ((go_at_call 94; exact quiet_add_left (prefix_to true _ ⟨#[40, 42]⟩ _ H2.out)))
  go_wp2_with (first | (go_at_call 95; (with_reducible refine (note_any b s k _ (HC.out.later (below_draw0 _ _)) (by omega) hs).mono ?_); rintro e w' ⟨rfl, rfl⟩))
  go_quiet (fail)
  go_wp2
  go_ret2
  exact ⟨rfl, below_draws (below_draw0 _ _) _⟩

set_option maxHeartbeats 1000000 in
theorem next_text (b : Nat) (s : ByteArray) (k : Nat) (w : World) (hc : Cur w b s k) (hk : k < s.size) (hs : s.size ≤ 140737488351232) (h1 : blankB s[k].toNat = false) (h2 : Lib.hasPrefix (s.data.toList.drop k) [40, 42] = false) (h4 : ((s[k].toNat : Int) == 34) = true) (h3 : ¬ textGo (s.data.toList.drop (k + 1)) (k + 1) < 0) :
    Calls Tryz.prog 70 #[.pointer (some ⟨b, 0, none⟩)] w fun e w' => e = .returned (.tuple #[.int .i64 5, .int .i64 (textGo (s.data.toList.drop (k + 1)) (k + 1))]) ∧ Below w.heap.size w w' := by
  have c0 := hc.text
  have c1 := hc.place
  have HC := Lib.hid hc
  have H1 := Lib.hid h1
  have H2 := Lib.hid (ext_prefix s k false _ h2)
  have h3' : 0 ≤ textGo (s.data.toList.drop (k + 1)) (k + 1) := by omega
  clear hc h1 h2 h3
  go_enter Tryz.func70, Tryz.ntmps70
  go_wp2
  go_quiet (fail)
  go_wp2_with (first | (go_at_call 92; refine (blank_to false _ _ H1.out).mono ?_; rintro e w' ⟨rfl, rfl⟩))
  go_quiet ((go_at_call 94; exact quiet_add_left (prefix_to false _ ⟨#[40, 42]⟩ _ H2.out)))
  go_wp2_with (first | (go_at_call 96; (with_reducible refine (text_any b s k _ (HC.out.later (below_draw0 _ _)) hk hs).mono ?_); rintro e w' ⟨rfl, rfl⟩))
  go_ret2
  exact ⟨rfl, below_draw0 _ _⟩

set_option maxHeartbeats 1000000 in
theorem next_badtext (b : Nat) (s : ByteArray) (k : Nat) (w : World) (hc : Cur w b s k) (hk : k < s.size) (hs : s.size ≤ 140737488351232) (h1 : blankB s[k].toNat = false) (h2 : Lib.hasPrefix (s.data.toList.drop k) [40, 42] = false) (h4 : ((s[k].toNat : Int) == 34) = true) (h3 : textGo (s.data.toList.drop (k + 1)) (k + 1) < 0) :
    Calls Tryz.prog 70 #[.pointer (some ⟨b, 0, none⟩)] w fun e w' => e = .returned (.tuple #[.int .i64 3, .int .i64 ((k + runL (fun c => !decide (c = 10)) (s.data.toList.drop k) : Nat) : Int)]) ∧ Below w.heap.size w w' := by
  have c0 := hc.text
  have c1 := hc.place
  have HC := Lib.hid hc
  have H1 := Lib.hid h1
  have H2 := Lib.hid (ext_prefix s k false _ h2)
  clear hc h1 h2
  go_enter Tryz.func70, Tryz.ntmps70
  go_wp2
  go_quiet (fail)
  go_wp2_with (first | (go_at_call 92; refine (blank_to false _ _ H1.out).mono ?_; rintro e w' ⟨rfl, rfl⟩))
  go_quiet ((go_at_call 94; exact quiet_add_left (prefix_to false _ ⟨#[40, 42]⟩ _ H2.out)))
  go_wp2_with (first | (go_at_call 96; (with_reducible refine (text_any b s k _ (HC.out.later (below_draw0 _ _)) hk hs).mono ?_); rintro e w' ⟨rfl, rfl⟩) | (go_at_call 97; (with_reducible refine (line_any b s k _ (HC.out.later (below_draw0 _ _)) (by omega) hs).mono ?_); rintro e w' ⟨rfl, hb⟩))
  go_ret2
  exact ⟨rfl, Below.next (below_draw0 _ _) (Nat.le_refl _) hb⟩

set_option maxHeartbeats 1000000 in
theorem next_badint (b : Nat) (s : ByteArray) (k : Nat) (w : World) (hc : Cur w b s k) (hk : k < s.size) (hs : s.size ≤ 140737488351232) (h1 : blankB s[k].toNat = false) (h2 : Lib.hasPrefix (s.data.toList.drop k) [40, 42] = false) (h4 : ((s[k].toNat : Int) == 34) = false) (h5 : digitB s[k].toNat = true) (h6 : runL digitB (s.data.toList.drop k) < runL restB (s.data.toList.drop k)) :
    Calls Tryz.prog 70 #[.pointer (some ⟨b, 0, none⟩)] w fun e w' => e = .returned (.tuple #[.int .i64 3, .int .i64 ((k + runL restB (s.data.toList.drop k) : Nat) : Int)]) ∧ Below w.heap.size w w' := by
  have c0 := hc.text
  have c1 := hc.place
  have HC := Lib.hid hc
  have H1 := Lib.hid h1
  have H2 := Lib.hid (ext_prefix s k false _ h2)
  have H5 := Lib.hid h5
  clear hc h1 h2 h5
  obtain ⟨D, hD⟩ : ∃ D, runL digitB (s.data.toList.drop k) = D := ⟨_, rfl⟩
  obtain ⟨E, hE⟩ : ∃ E, runL restB (s.data.toList.drop k) = E := ⟨_, rfl⟩
  rw [hD, hE] at h6
  rw [hE]
  have HD := Lib.hid hD
  have HE := Lib.hid hE
  clear hD hE
  go_enter Tryz.func70, Tryz.ntmps70
  go_wp2
  go_quiet (fail)
  go_wp2_with (first | (go_at_call 92; refine (blank_to false _ _ H1.out).mono ?_; rintro e w' ⟨rfl, rfl⟩))
  go_quiet ((go_at_call 94; exact quiet_add_left (prefix_to false _ ⟨#[40, 42]⟩ _ H2.out)))
  go_wp2_with (first | (go_at_call 98; refine (digit_to true _ _ H5.out).mono ?_; rintro e w' ⟨rfl, rfl⟩))
  refine (run_any 98 _ enters_digit byteB_digit b s k k _ (HC.out.later (below_draw0 _ _)) (by omega) hs).mono ?_
  rintro e w1 ⟨rfl, hb⟩
  rw [HD.out]
  have hB := Lib.hid (Below.next (below_draw0 _ _) (Nat.le_refl _) hb)
  have hc1 := HC.out.later hB.out
  have c0' := hc1.text
  have c1' := hc1.place
  clear hb hc1
  dsimp only
  go_wp2_with fail
  refine (run_any 99 _ enters_lrest byteB_rest b s k k _ (HC.out.later hB.out) (by omega) hs).mono ?_
  rintro e w2 ⟨rfl, hb2⟩
  rw [HE.out]
  have hB2 := Lib.hid (Below.next hB.out (Nat.le_refl _) hb2)
  clear hb2
  dsimp only
  go_wp2
  go_ret2
  exact ⟨rfl, hB2.out⟩

set_option maxHeartbeats 1000000 in
theorem next_int (b : Nat) (s : ByteArray) (k : Nat) (w : World) (hc : Cur w b s k) (hk : k < s.size) (hs : s.size ≤ 140737488351232) (h1 : blankB s[k].toNat = false) (h2 : Lib.hasPrefix (s.data.toList.drop k) [40, 42] = false) (h4 : ((s[k].toNat : Int) == 34) = false) (h5 : digitB s[k].toNat = true) (h6 : runL restB (s.data.toList.drop k) ≤ runL digitB (s.data.toList.drop k)) :
    Calls Tryz.prog 70 #[.pointer (some ⟨b, 0, none⟩)] w fun e w' => e = .returned (.tuple #[.int .i64 4, .int .i64 ((k + runL restB (s.data.toList.drop k) : Nat) : Int)]) ∧ Below w.heap.size w w' := by
  have c0 := hc.text
  have c1 := hc.place
  have HC := Lib.hid hc
  have H1 := Lib.hid h1
  have H2 := Lib.hid (ext_prefix s k false _ h2)
  have H5 := Lib.hid h5
  clear hc h1 h2 h5
  obtain ⟨D, hD⟩ : ∃ D, runL digitB (s.data.toList.drop k) = D := ⟨_, rfl⟩
  obtain ⟨E, hE⟩ : ∃ E, runL restB (s.data.toList.drop k) = E := ⟨_, rfl⟩
  rw [hD, hE] at h6
  rw [hE]
  have HD := Lib.hid hD
  have HE := Lib.hid hE
  clear hD hE
  go_enter Tryz.func70, Tryz.ntmps70
  go_wp2
  go_quiet (fail)
  go_wp2_with (first | (go_at_call 92; refine (blank_to false _ _ H1.out).mono ?_; rintro e w' ⟨rfl, rfl⟩))
  go_quiet ((go_at_call 94; exact quiet_add_left (prefix_to false _ ⟨#[40, 42]⟩ _ H2.out)))
  go_wp2_with (first | (go_at_call 98; refine (digit_to true _ _ H5.out).mono ?_; rintro e w' ⟨rfl, rfl⟩))
  refine (run_any 98 _ enters_digit byteB_digit b s k k _ (HC.out.later (below_draw0 _ _)) (by omega) hs).mono ?_
  rintro e w1 ⟨rfl, hb⟩
  rw [HD.out]
  have hB := Lib.hid (Below.next (below_draw0 _ _) (Nat.le_refl _) hb)
  have hc1 := HC.out.later hB.out
  have c0' := hc1.text
  have c1' := hc1.place
  clear hb hc1
  dsimp only
  go_wp2_with fail
  refine (run_any 99 _ enters_lrest byteB_rest b s k k _ (HC.out.later hB.out) (by omega) hs).mono ?_
  rintro e w2 ⟨rfl, hb2⟩
  rw [HE.out]
  have hB2 := Lib.hid (Below.next hB.out (Nat.le_refl _) hb2)
  clear hb2
  dsimp only
  go_wp2
  go_ret2
  exact ⟨rfl, hB2.out⟩
end Go.Proofs.YtbbibngagdpdcaaGreatDoor
