import Derived.Test.YtbbibngagdpdcaaDoorB2
namespace Go.Proofs.YtbbibngagdpdcaaDoor
open Go Go.RowKit
open Go.Shelf

theorem contains1_to (r : Bool) (t x : ByteArray) (c : UInt8) (w : World) (hx : x.data.toList = [c]) (hr : t.data.toList.contains c = r) :
    Calls Tryd.prog 35 #[.string t, .string x] w fun e w' => e = .returned (.bool r) ∧ w = w' := by
  obtain rfl : x = ⟨#[c]⟩ := by
    cases x with
    | mk a => exact congrArg ByteArray.mk (Array.toList_inj.1 hx)
  refine (Tryd.strings_Contains_one t c w).mono ?_
  rintro e w' ⟨rfl, rfl⟩
  exact ⟨ret_bool (by rw [← hr, Lib.contains_iff_indexByte]), rfl⟩

def escB (c : UInt8) : Bool := ([34, 92, 110, 116] : List UInt8).contains c

/-- WHERE A TEXT ENDS (-1: nowhere); the bytes from place k on. -/
def textGo : List UInt8 → Nat → Int
  | [], _ => -1
  | c :: r, k =>
    if ((c.toNat : Int) == 34) = true then (k : Int) + 1
    else if ((c.toNat : Int) == 10) = true then -1
    else if ((c.toNat : Int) == 92) = true then (match r with | [] => -1 | d :: r' => if escB d then textGo r' (k + 2) else -1)
    else textGo r (k + 1)

theorem textGo_cons (c : UInt8) (r : List UInt8) (k : Nat) : textGo (c :: r) k =
    (if ((c.toNat : Int) == 34) = true then (k : Int) + 1
    else if ((c.toNat : Int) == 10) = true then -1
    else if ((c.toNat : Int) == 92) = true then (match r with | [] => -1 | d :: r' => if escB d then textGo r' (k + 2) else -1)
    else textGo r (k + 1)) := by
  cases r <;> simp only [textGo]

theorem ext_one (s : ByteArray) (k : Nat) (h : k < s.size) : (s.extract k (k + 1)).data.toList = [s[k]] := by
  rw [Lib.extract_data, drop_cons s k h, show k + 1 - k = 1 by omega]
  rfl

set_option maxHeartbeats 4000000 in
theorem text_any (b : Nat) (s : ByteArray) (at_ : Nat) (w : World) (hc : Cur w b s at_) (ha : at_ < s.size) (hs : s.size ≤ 140737488351232) :
    Calls Tryd.prog 75 #[.pointer (some ⟨b, 0, none⟩)] w fun e w' => e = .returned (.int .i64 (textGo (s.data.toList.drop (at_ + 1)) (at_ + 1))) ∧ w = w' := by
  have c0 := hc.text
  have c1 := hc.place
  clear hc
  obtain ⟨R, hR⟩ : ∃ R, textGo (s.data.toList.drop (at_ + 1)) (at_ + 1) = R := ⟨_, rfl⟩
  have HR := Lib.hid hR
  rw [hR]
  clear hR
  go_enter Tryd.func75, Tryd.ntmps75
  go_wp2
  go_loopg [3] (s.size + 1) (fun g s3 wr => ∃ (k : Nat) (x : Int), s3 = .int .i64 x ∧ x = k ∧ k ≤ s.size ∧ s.size - k < g ∧ wr = w ∧ Hid (textGo (s.data.toList.drop k) k = R))
  case atStart => exact ⟨at_ + 1, _, rfl, by omega, by omega, by omega, rfl, HR.out⟩
  case round =>
    obtain ⟨k, x, rfl, rfl, hk, hg, rfl, hJ⟩ := hrel
    clear HR c1
    have hj := hJ.out
    clear hJ
    by_cases hlt : k < s.size
    · rw [drop_cons s k hlt, textGo_cons] at hj
      cases h1 : ((s[k].toNat : Int) == 34) with
      | true =>
        rw [if_pos h1] at hj
        have HN := Lib.hid hj
        clear hj
        go_wp2
        go_ret
        exact ⟨ret_i64 HN.out, rfl⟩
      | false =>
        rw [if_neg (by rw [h1]; decide)] at hj
        cases h2 : ((s[k].toNat : Int) == 10) with
        | true =>
          rw [if_pos h2] at hj
          have HN := Lib.hid hj
          clear hj
          go_wp2
          go_ret
          exact ⟨ret_i64 HN.out, rfl⟩
        | false =>
          rw [if_neg (by rw [h2]; decide)] at hj
          cases h3 : ((s[k].toNat : Int) == 92) with
          | true =>
            rw [if_pos h3] at hj
            by_cases hlt1 : k + 1 < s.size
            · rw [drop_cons s (k + 1) hlt1] at hj
              cases h4 : escB s[k + 1] with
              | true =>
                simp only [h4, if_true] at hj
                have HN := Lib.hid hj
                have H4 := Lib.hid h4
                clear hj h4
                go_wp2_with (go_at_call 35; (refine (contains1_to true ⟨#[34, 92, 110, 116]⟩ _ _ _ (ext_one s (k + 1) hlt1) H4.out).mono ?_); rintro e w' ⟨rfl, rfl⟩)
                go_roundg (s.size + 1 - (k + 2))
                case measure => omega
                case rel => exact ⟨k + 2, _, rfl, by omega, by omega, by omega, rfl, HN⟩
              | false =>
                simp only [h4, Bool.false_eq_true, if_false] at hj
                have HN := Lib.hid hj
                have H4 := Lib.hid h4
                clear hj h4
                go_wp2_with (go_at_call 35; (refine (contains1_to false ⟨#[34, 92, 110, 116]⟩ _ _ _ (ext_one s (k + 1) hlt1) H4.out).mono ?_); rintro e w' ⟨rfl, rfl⟩)
                go_ret
                exact ⟨ret_i64 HN.out, rfl⟩
            · rw [List.drop_eq_nil_of_le (by simp; omega)] at hj
              have HN := Lib.hid hj
              clear hj
              go_wp2
              go_ret
              exact ⟨ret_i64 HN.out, rfl⟩
          | false =>
            rw [if_neg (by rw [h3]; decide)] at hj
            have HN := Lib.hid hj
            clear hj
            go_wp2
            go_roundg (s.size + 1 - (k + 1))
            case measure => omega
            case rel => exact ⟨k + 1, _, rfl, by omega, by omega, by omega, rfl, HN⟩
    · rw [List.drop_eq_nil_of_le (by simp; omega), textGo] at hj
      have HN := Lib.hid hj
      clear hj
      go_wp2
      go_ret
      exact ⟨ret_i64 HN.out, rfl⟩

theorem line_any (b : Nat) (s : ByteArray) (at_ : Nat) (w : World) (hc : Cur w b s at_) (ha : at_ ≤ s.size) (hs : s.size ≤ 140737488351232) :
    Calls Tryd.prog 76 #[.pointer (some ⟨b, 0, none⟩)] w fun e w' => e = .returned (.int .i64 ((at_ + runL (fun c => !decide (c = 10)) (s.data.toList.drop at_) : Nat) : Int)) ∧ Below w.heap.size w w' := by
  have c0 := hc.text
  have c1 := hc.place
  have HC := Lib.hid hc
  clear hc
  go_enter Tryd.func76, Tryd.ntmps76
  go_wp2_with (go_at_call 72; refine (run_any 93 _ enters_line byteB_line b s at_ at_ _ HC.out ha hs).mono ?_; rintro e w' ⟨rfl, hb⟩)
  go_ret
  exact ⟨rfl, hb⟩
end Go.Proofs.YtbbibngagdpdcaaDoor
