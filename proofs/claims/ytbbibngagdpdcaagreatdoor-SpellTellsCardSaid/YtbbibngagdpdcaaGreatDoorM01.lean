/-
  PROVED HERE: a part of the proof of the card 'SpellTellsCardSaid': what functions of the program, or of the document's packages, that SpellTells reaches compute (texts A0, A1). CONDITIONS: each theorem's own.
-/
import Derived.WalkKit
import Derived.WalkLawsBesides
import Derived.WalkSpells
import Derived.Lib.Hide
import Derived.Test.YtbbibngagdpdcaaGreatDoorProg
namespace Go.Proofs.YtbbibngagdpdcaaGreatDoor
open Go Go.RowKit

def smallB (c : Int) : Bool := decide (97 ≤ c) && decide (c ≤ 122)
def greatB (c : Int) : Bool := decide (65 ≤ c) && decide (c ≤ 90)
def digitB (c : Int) : Bool := decide (48 ≤ c) && decide (c ≤ 57)
def blankB (c : Int) : Bool := decide (c = 32) || (decide (c = 9) || (decide (c = 10) || decide (c = 13)))
def restB (c : Int) : Bool := smallB c || (greatB c || (digitB c || (decide (c = 95) || decide (c = 39))))

theorem ret_bool {a b : Bool} (h : a = b) : Ending.returned (.bool a) = .returned (.bool b) := by rw [h]

theorem small_any (c : Int) (w : World) : Calls Tryz.prog 34 #[.int .u8 c] w fun e w' => e = .returned (.bool (smallB c)) ∧ w = w' := by
  go_enter Tryz.func34, Tryz.ntmps34
  go_wp2
  all_goals go_ret; exact ⟨ret_bool (by rw [Bool.eq_iff_iff]; simp [smallB]; omega), rfl⟩

theorem great_any (c : Int) (w : World) : Calls Tryz.prog 36 #[.int .u8 c] w fun e w' => e = .returned (.bool (greatB c)) ∧ w = w' := by
  go_enter Tryz.func36, Tryz.ntmps36
  go_wp2
  all_goals go_ret; exact ⟨ret_bool (by rw [Bool.eq_iff_iff]; simp [greatB]; omega), rfl⟩

theorem digit_any (c : Int) (w : World) : Calls Tryz.prog 98 #[.int .u8 c] w fun e w' => e = .returned (.bool (digitB c)) ∧ w = w' := by
  go_enter Tryz.func98, Tryz.ntmps98
  go_wp2
  all_goals go_ret; exact ⟨ret_bool (by rw [Bool.eq_iff_iff]; simp [digitB]; omega), rfl⟩

theorem blank_any (c : Int) (w : World) : Calls Tryz.prog 92 #[.int .u8 c] w fun e w' => e = .returned (.bool (blankB c)) ∧ w = w' := by
  go_enter Tryz.func92, Tryz.ntmps92
  go_wp2
  all_goals go_ret
  all_goals exact ⟨ret_bool (by rw [Bool.eq_iff_iff]; simp [blankB]; omega), rfl⟩

theorem line1_any (c : Int) (w : World) : Calls Tryz.prog 114 #[.int .u8 c] w fun e w' => e = .returned (.bool (!decide (c = 10))) ∧ w = w' := by
  go_enter Tryz.func114, Tryz.ntmps114
  go_wp2
  all_goals go_ret
  all_goals exact ⟨ret_bool (by rw [Bool.eq_iff_iff]; simp), rfl⟩

theorem rest_any (c : Int) (w : World) : Calls Tryz.prog 35 #[.int .u8 c] w fun e w' => e = .returned (.bool (restB c)) ∧ w = w' := by
  go_enter Tryz.func35, Tryz.ntmps35
  go_wp2_with (first | (go_at_call 34; refine (small_any _ _).mono ?_; rintro e w' ⟨rfl, rfl⟩) | (go_at_call 36; refine (great_any _ _).mono ?_; rintro e w' ⟨rfl, rfl⟩))
  all_goals go_ret
  all_goals exact ⟨ret_bool (by simp_all [restB, digitB] <;> rw [Bool.eq_iff_iff] <;> simp <;> omega), rfl⟩
end Go.Proofs.YtbbibngagdpdcaaGreatDoor

namespace Go.Proofs.YtbbibngagdpdcaaGreatDoor
open Go Go.RowKit

/-- WHAT A FUNCTION OF A BYTE THAT ANSWERS A BOOL COMES TO (the world is as it was). -/
def ByteFn (F : Nat) (p : Int → Bool) : Prop := ∀ (c : Int) (w : World), 0 ≤ c → c ≤ 255 → Calls Tryz.prog F #[.int .u8 c] w fun e w' => e = .returned (.bool (p c)) ∧ w = w'

def allB (p : Int → Bool) (l : List UInt8) : Bool := l.all fun b => p b.toNat

theorem allB_snoc (p : Int → Bool) (s : ByteArray) (k : Nat) (h : k < s.size) : allB p (s.data.toList.take (k + 1)) = (allB p (s.data.toList.take k) && p (s[k].toNat)) := by
  unfold allB
  rw [List.take_succ_eq_append_getElem (by simpa using h), List.all_append]
  simp
  rfl

theorem allB_false (p : Int → Bool) (s : ByteArray) (k : Nat) (h : k < s.size) (hp : p (s[k].toNat) = false) : allB p s.data.toList = false := by
  unfold allB
  rw [List.all_eq_false]
  refine ⟨s[k], ?_, by simp [hp]⟩
  exact List.getElem_mem (by simpa using h : k < s.data.toList.length)

set_option maxHeartbeats 400000 in
theorem all_any (F : Nat) (p : Int → Bool) (eg : ∀ args w, (callFunc F args).run Tryz.prog w = .ok (.enter F args) w) (hF : ByteFn F p) (s : ByteArray) (w : World) (hs : s.size ≤ 140737488351232) :
    Calls Tryz.prog 33 #[.string s, .func (.func F) #[] #[]] w fun e w' => e = .returned (.bool (allB p s.data.toList)) ∧ w = w' := by
  go_enter Tryz.func33, Tryz.ntmps33
  go_wp2
  go_loop [8] (fun i => ∃ k : Nat, k ≤ s.size ∧ i = .int .i64 k ∧ Hid (allB p (s.data.toList.take k) = true)) (fun i => s.size - (intOf i).toNat)
  case atStart => exact ⟨0, Nat.zero_le _, rfl, rfl⟩
  case round =>
    obtain ⟨k, hk, rfl, hall⟩ := hrel
    by_cases hlt : k < s.size
    · have hu : (s[k].toNat : Int) ≤ 255 := by have := s[k].toNat_lt; omega
      cases hp : p (s[k].toNat) with
      | true =>
        have HP := Lib.hid hp
        have HC : Hid (∀ w, Calls Tryz.prog F #[.int .u8 (s[k].toNat : Int)] w fun e w' => e = .returned (.bool true) ∧ w = w') := fun w => by have := hF _ w (Int.natCast_nonneg s[k].toNat) hu; rw [hp] at this; exact this
        clear hp
        have HN : Hid (allB p (s.data.toList.take (k + 1)) = true) := by
          show _ = true
          rw [allB_snoc p s k hlt, hall.out, HP.out]; rfl
        go_wp2_with fail
        refine (HC.out _).mono ?_
        rintro e w' ⟨rfl, rfl⟩
        go_wp2
        go_round
        case rel => exact ⟨k + 1, by omega, by go_num, HN⟩
        case measure => simp [intOf]; omega
      | false =>
        have HP := Lib.hid hp
        have HC : Hid (∀ w, Calls Tryz.prog F #[.int .u8 (s[k].toNat : Int)] w fun e w' => e = .returned (.bool false) ∧ w = w') := fun w => by have := hF _ w (Int.natCast_nonneg s[k].toNat) hu; rw [hp] at this; exact this
        clear hp
        go_wp2_with fail
        refine (HC.out _).mono ?_
        rintro e w' ⟨rfl, rfl⟩
        go_wp2
        go_ret
        exact ⟨ret_bool (allB_false p s k hlt HP.out).symm, rfl⟩
    · go_wp2
      go_ret
      refine ⟨ret_bool ?_, rfl⟩
      have h := hall.out
      rw [List.take_of_length_le (by simp; omega)] at h
      exact h.symm
end Go.Proofs.YtbbibngagdpdcaaGreatDoor
