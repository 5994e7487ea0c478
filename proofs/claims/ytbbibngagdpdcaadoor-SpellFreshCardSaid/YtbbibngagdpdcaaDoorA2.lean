import Derived.Test.YtbbibngagdpdcaaDoorA1
import Derived.Test.YtbbibngagdpdcaaDoorShelf
import Derived.Lib.IndexAny
namespace Go.Proofs.YtbbibngagdpdcaaDoor
open Go Go.RowKit

def reservedB (l : List UInt8) : Bool := decide (l = [61]) || (decide (l = [61, 62]) || (decide (l = [124]) || (decide (l = [58]) || (decide (l = [58, 62]) || decide (l = [45, 62])))))
def oneMark (l : List UInt8) : Bool := match l with | [c] => ([40, 41, 44, 46, 59, 95] : List UInt8).contains c | _ => false
def markB (l : List UInt8) : Bool := reservedB l || oneMark l

theorem bytes_one (s : ByteArray) (h : s.size = 1) : ∃ c, s = ⟨#[c]⟩ := by
  obtain ⟨⟨l⟩⟩ := s
  match l, h with
  | [c], _ => exact ⟨c, rfl⟩

theorem oneMark_short (l : List UInt8) (h : l.length ≠ 1) : oneMark l = false := by
  unfold oneMark
  split
  · exact absurd rfl h
  · rfl

set_option maxHeartbeats 400000 in
theorem reserved_any (s : ByteArray) (w : World) : Calls Tryd.prog 34 #[.string s] w fun e w' => e = .returned (.bool (reservedB s.data.toList)) ∧ w = w' := by
  go_enter Tryd.func34, Tryd.ntmps34
  go_wp2
  all_goals go_ret
  all_goals exact ⟨ret_bool (by simp_all [reservedB, Lib.toList_data]), rfl⟩

theorem mark_yes (s : ByteArray) (w : World) (h : reservedB s.data.toList = true) : Calls Tryd.prog 20 #[.string s] w fun e w' => e = .returned (.bool (markB s.data.toList)) ∧ w = w' := by
  have hm : markB s.data.toList = true := by simp [markB, h]
  have HM := Lib.hid hm
  clear hm
  go_enter Tryd.func20, Tryd.ntmps20
  go_wp2_with ((go_at_call 34; refine (reserved_any _ _).mono ?_; rintro e w' ⟨rfl, rfl⟩))
  go_ret
  exact ⟨ret_bool HM.out.symm, rfl⟩

theorem mark_long (s : ByteArray) (w : World) (h : reservedB s.data.toList = false) (h1 : ¬ ((s.size : Int) = 1)) : Calls Tryd.prog 20 #[.string s] w fun e w' => e = .returned (.bool (markB s.data.toList)) ∧ w = w' := by
  have hm : markB s.data.toList = false := by
    rw [markB, h, oneMark_short _ (by simp; omega)]; rfl
  have HM := Lib.hid hm
  clear hm
  go_enter Tryd.func20, Tryd.ntmps20
  go_wp2_with ((go_at_call 34; refine (reserved_any _ _).mono ?_; rintro e w' ⟨rfl, rfl⟩))
  go_ret
  exact ⟨ret_bool HM.out.symm, rfl⟩

theorem mark_one (c : UInt8) (w : World) (h : reservedB [c] = false) : Calls Tryd.prog 20 #[.string ⟨#[c]⟩] w fun e w' => e = .returned (.bool (markB [c])) ∧ w = w' := by
  have hm : markB [c] = decide (0 ≤ Lib.indexByte [40, 41, 44, 46, 59, 95] c) := by
    rw [markB, h, oneMark, ← Lib.contains_iff_indexByte]; rfl
  have HM := Lib.hid hm
  clear hm
  go_enter Tryd.func20, Tryd.ntmps20
  go_wp2_with (first | (go_at_call 34; refine (reserved_any _ _).mono ?_; rintro e w' ⟨rfl, rfl⟩) | (go_at_call 35; refine (Tryd.strings_Contains_one _ _ _).mono ?_; rintro e w' ⟨rfl, rfl⟩))
  go_ret
  exact ⟨ret_bool HM.out.symm, rfl⟩

theorem mark_any (s : ByteArray) (w : World) : Calls Tryd.prog 20 #[.string s] w fun e w' => e = .returned (.bool (markB s.data.toList)) ∧ w = w' := by
  cases h : reservedB s.data.toList with
  | true => exact mark_yes s w h
  | false =>
    by_cases h1 : s.size = 1
    · obtain ⟨c, rfl⟩ := bytes_one s h1
      exact mark_one c w h
    · exact mark_long s w h (by omega)

def signBytes : List UInt8 := [33, 37, 38, 36, 35, 43, 45, 47, 58, 60, 61, 62, 63, 64, 92, 126, 96, 94, 124, 42]
def signB (c : Int) : Bool := signBytes.contains c.toNat.toUInt8

theorem sign_any (c : Int) (w : World) : Calls Tryd.prog 21 #[.int .u8 c] w fun e w' => e = .returned (.bool (signB c)) ∧ w = w' := by
  have hm : signB c = decide (0 ≤ Lib.indexByte signBytes c.toNat.toUInt8) := by
    rw [← Lib.contains_iff_indexByte]; rfl
  have HM := Lib.hid hm
  clear hm
  go_enter Tryd.func21, Tryd.ntmps21
  go_wp2_with ((go_at_call 36; refine (Tryd.strings_IndexByte _ _ _).mono ?_; rintro e w' ⟨rfl, rfl⟩))
  go_ret
  exact ⟨ret_bool HM.out.symm, rfl⟩

end Go.Proofs.YtbbibngagdpdcaaDoor
