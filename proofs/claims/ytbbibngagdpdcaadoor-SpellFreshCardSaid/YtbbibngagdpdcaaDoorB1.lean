import Derived.Test.YtbbibngagdpdcaaDoorB0
namespace Go.Proofs.YtbbibngagdpdcaaDoor
open Go Go.RowKit
open Go.Shelf

/-- .. that may make memory of its own. -/
def ByteFnB (F : Nat) (p : Int → Bool) : Prop := ∀ (c : Int) (w : World), 0 ≤ c → c ≤ 255 → Calls Tryd.prog F #[.int .u8 c] w fun e w' => e = .returned (.bool (p c)) ∧ Below w.heap.size w w'

theorem byteB_blank : ByteFnB 71 blankB := fun c w _ _ => (blank_any c w).mono fun _ _ ⟨he, hw⟩ => ⟨he, hw ▸ Below.refl _ _⟩
theorem byteB_digit : ByteFnB 77 digitB := fun c w _ _ => (digit_any c w).mono fun _ _ ⟨he, hw⟩ => ⟨he, hw ▸ Below.refl _ _⟩
theorem byteB_line : ByteFnB 93 (fun c => !decide (c = 10)) := fun c w _ _ => (line1_any c w).mono fun _ _ ⟨he, hw⟩ => ⟨he, hw ▸ Below.refl _ _⟩
theorem byteB_rest : ByteFnB 78 restB := fun c w h0 h1 => (lrest_walk c w).mono fun _ _ ⟨he, hw⟩ => ⟨by rw [he, rest_byte c h0 h1], hw⟩
theorem byteB_sign : ByteFnB 79 signB := fun c w h0 h1 => (lsign_walk c w).mono fun _ _ ⟨he, hw⟩ => ⟨by rw [he, sign_byte c h0 h1], hw⟩
theorem enters_blank : ∀ args w, (callFunc 71 args).run Tryd.prog w = .ok (.enter 71 args) w := enters_of Tryd.func71 (by kernel_rfl) rfl
theorem enters_digit : ∀ args w, (callFunc 77 args).run Tryd.prog w = .ok (.enter 77 args) w := enters_of Tryd.func77 (by kernel_rfl) rfl
theorem enters_line : ∀ args w, (callFunc 93 args).run Tryd.prog w = .ok (.enter 93 args) w := enters_of Tryd.func93 (by kernel_rfl) rfl
theorem enters_lrest : ∀ args w, (callFunc 78 args).run Tryd.prog w = .ok (.enter 78 args) w := enters_of Tryd.func78 (by kernel_rfl) rfl
theorem enters_lsign : ∀ args w, (callFunc 79 args).run Tryd.prog w = .ok (.enter 79 args) w := enters_of Tryd.func79 (by kernel_rfl) rfl

/-- HOW MANY BYTES FROM THE BEGINNING ON p HOLDS OF. -/
def runL (p : Int → Bool) : List UInt8 → Nat
  | [] => 0
  | b :: r => if p b.toNat then runL p r + 1 else 0

/-- A CURSOR IN MEMORY: a text, and a place. -/
structure Cur (w : World) (b : Nat) (s : ByteArray) (at_ : Nat) : Prop where
  lt : b < w.heap.size
  text : w.cell? ⟨b, 0, none⟩ = some (.string s)
  place : w.cell? ⟨b, 1, none⟩ = some (.int .i64 at_)

theorem Cur.later {w w' : World} {b : Nat} {s : ByteArray} {a : Nat} (h : Cur w b s a) (hb : Below w.heap.size w w') : Cur w' b s a :=
  ⟨Nat.lt_of_lt_of_le h.lt hb.size, (hb.cell (p := ⟨b, 0, none⟩) h.lt).trans h.text, (hb.cell (p := ⟨b, 1, none⟩) h.lt).trans h.place⟩

theorem drop_cons (s : ByteArray) (k : Nat) (h : k < s.size) : s.data.toList.drop k = s[k] :: s.data.toList.drop (k + 1) :=
  List.drop_eq_getElem_cons (by simpa using h)

set_option maxHeartbeats 1000000 in
theorem run_any (F : Nat) (p : Int → Bool) (eg : ∀ args w, (callFunc F args).run Tryd.prog w = .ok (.enter F args) w) (hF : ByteFnB F p) (b : Nat) (s : ByteArray) (a0 at_ : Nat) (w : World) (hc : Cur w b s at_) (ha : a0 ≤ s.size) (hs : s.size ≤ 140737488351232) :
    Calls Tryd.prog 72 #[.pointer (some ⟨b, 0, none⟩), .int .i64 a0, .func (.func F) #[] #[]] w fun e w' => e = .returned (.int .i64 ((a0 + runL p (s.data.toList.drop a0) : Nat) : Int)) ∧ Below w.heap.size w w' := by
  obtain ⟨R, hR⟩ : ∃ R, a0 + runL p (s.data.toList.drop a0) = R := ⟨_, rfl⟩
  have HR := Lib.hid hR
  have HC := Lib.hid hc
  rw [hR]
  clear hR hc
  go_enter Tryd.func72, Tryd.ntmps72
  go_wp2
  go_loopg [1] s.size (fun g s1 wr => ∃ k : Nat, s1 = .int .i64 k ∧ k ≤ s.size ∧ s.size - k ≤ g ∧ Hid (k + runL p (s.data.toList.drop k) = R) ∧ Hid (Below w.heap.size w wr))
  case atStart => exact ⟨a0, rfl, ha, by omega, HR.out, Below.refl _ _⟩
  case round =>
    obtain ⟨k, rfl, hk, hg, hkR, hB⟩ := hrel
    clear HR
    have hcur := HC.out.later hB.out
    have c0 := hcur.text
    clear hcur
    by_cases hlt : k < s.size
    · have hu : (s[k].toNat : Int) ≤ 255 := by have := s[k].toNat_lt; omega
      cases hp : p (s[k].toNat) with
      | true =>
        have HP : Hid (∀ w, Calls Tryd.prog F #[.int .u8 (s[k].toNat : Int)] w fun e w' => e = .returned (.bool true) ∧ Below w.heap.size w w') := fun w => by have := hF _ w (Int.natCast_nonneg s[k].toNat) hu; rw [hp] at this; exact this
        have HN : Hid (k + 1 + runL p (s.data.toList.drop (k + 1)) = R) := by
          show _ = R
          rw [← hkR.out, drop_cons s k hlt, runL, if_pos hp]
          omega
        clear hp hkR
        go_wp2_with fail
        refine (HP.out _).mono ?_
        rintro e w1 ⟨rfl, hb1⟩
        have hB1 := Lib.hid (Below.next hB.out (Nat.le_refl _) hb1)
        clear hb1 hB c0
        dsimp only
        go_wp2
        go_roundg (s.size - (k + 1))
        case measure => omega
        case rel => exact ⟨k + 1, by go_num, by omega, Nat.le_refl _, HN, hB1⟩
      | false =>
        have HP : Hid (∀ w, Calls Tryd.prog F #[.int .u8 (s[k].toNat : Int)] w fun e w' => e = .returned (.bool false) ∧ Below w.heap.size w w') := fun w => by have := hF _ w (Int.natCast_nonneg s[k].toNat) hu; rw [hp] at this; exact this
        have HN : Hid (k = R) := by
          show k = R
          rw [← hkR.out, drop_cons s k hlt, runL, if_neg (by rw [hp]; decide)]
          omega
        clear hp hkR
        go_wp2_with fail
        refine (HP.out _).mono ?_
        rintro e w1 ⟨rfl, hb1⟩
        have hB1 := Lib.hid (Below.next hB.out (Nat.le_refl _) hb1)
        clear hb1 hB c0
        dsimp only
        go_wp2
        go_ret
        exact ⟨ret_i64 (congrArg (fun n : Nat => (n : Int)) HN.out), hB1.out⟩
    · have HN : Hid (k = R) := by
        show k = R
        rw [← hkR.out, List.drop_eq_nil_of_le (by simp; omega)]
        simp [runL]
      go_wp2
      go_ret
      exact ⟨ret_i64 (congrArg (fun n : Nat => (n : Int)) HN.out), hB.out⟩
end Go.Proofs.YtbbibngagdpdcaaDoor
