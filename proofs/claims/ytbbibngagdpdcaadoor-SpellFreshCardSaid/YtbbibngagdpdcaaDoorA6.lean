import Derived.Test.YtbbibngagdpdcaaDoorA5
namespace Go.Proofs.YtbbibngagdpdcaaDoor
open Go Go.RowKit
open Go.Shelf

def levelOf (c : Int) : Int :=
  if c == 42 then 7 else if c == 47 then 7 else if c == 37 then 7 else if c == 43 then 6 else if c == 45 then 6 else if c == 94 then 5 else if c == 64 then 5 else if c == 58 then 5 else if c == 61 then 4 else if c == 60 then 4 else if c == 62 then 4 else if c == 33 then 4 else if c == 38 then 3 else if c == 124 then 3 else 2
def rightOf (c : Int) : Bool :=
  if c == 42 then false else if c == 47 then false else if c == 37 then false else if c == 43 then false else if c == 45 then false else if c == 94 then true else if c == 64 then true else if c == 58 then true else if c == 61 then false else if c == 60 then false else if c == 62 then false else if c == 33 then false else if c == 38 then false else if c == 124 then false else false

def headI (l : List UInt8) : Int := match l with | [] => 0 | c :: _ => c.toNat

/-- WHAT name.Level GIVES. -/
def levelL (l : List UInt8) : Int := if kindL l = 9 then levelOf (headI l) else 0
def rightL (l : List UInt8) : Bool := if kindL l = 9 then rightOf (headI l) else false

theorem head_get (s : ByteArray) (h : 0 < s.size) : headI s.data.toList = s[0].toNat := by
  obtain ⟨⟨l⟩⟩ := s
  match l, h with
  | a :: r, _ => rfl

theorem ret_lr {a b : Int} {c d : Bool} (h : a = b) (h' : c = d) : Ending.returned (.tuple #[.int .i64 a, .bool c]) = .returned (.tuple #[.int .i64 b, .bool d]) := by rw [h, h']

theorem kind_pos (s : ByteArray) (h : kindL s.data.toList ≠ 0) : 0 < s.size := by
  by_cases h0 : s.size = 0
  · refine absurd ?_ h
    obtain rfl : s = ⟨#[]⟩ := by
      cases s with
      | mk a => exact congrArg ByteArray.mk (Array.eq_empty_of_size_eq_zero h0)
    rfl
  · omega

theorem level_no (s : ByteArray) (w : World) (hs : s.size ≤ 140737488351232) (hk : kindL s.data.toList ≠ 9) : Calls Tryd.prog 18 #[.string s] w fun e w' => e = .returned (.tuple #[.int .i64 (levelL s.data.toList), .bool (rightL s.data.toList)]) ∧ Below w.heap.size w w' := by
  have hl : levelL s.data.toList = 0 := by simp [levelL, hk]
  have hr : rightL s.data.toList = false := by simp [rightL, hk]
  have HL := Lib.hid hl
  have HR := Lib.hid hr
  have hkb : (kindL s.data.toList != 9) = true := by simpa using hk
  clear hl hr hk
  go_enter Tryd.func18, Tryd.ntmps18
  go_wp2_with (go_at_call 14; refine (kind_any _ _ hs).mono ?_; rintro e w' ⟨rfl, hb⟩)
  go_ret2
  exact ⟨ret_lr HL.out.symm HR.out.symm, hb⟩

set_option maxHeartbeats 1000000 in
theorem level_yes (s : ByteArray) (w : World) (hs : s.size ≤ 140737488351232) (hk : kindL s.data.toList = 9) : Calls Tryd.prog 18 #[.string s] w fun e w' => e = .returned (.tuple #[.int .i64 (levelL s.data.toList), .bool (rightL s.data.toList)]) ∧ Below w.heap.size w w' := by
  have h0 : 0 < s.size := kind_pos s (by rw [hk]; decide)
  have hl : levelL s.data.toList = levelOf s[0].toNat := by simp only [levelL, hk, if_true, head_get s h0]
  have hr : rightL s.data.toList = rightOf s[0].toNat := by simp only [rightL, hk, if_true, head_get s h0]
  have HL := Lib.hid hl
  have HR := Lib.hid hr
  have HC : Hid (∀ w, Calls Tryd.prog 14 #[.string s] w fun e w' => e = .returned (.int .i64 9) ∧ Below w.heap.size w w') := fun w => by have := kind_any s w hs; rw [hk] at this; exact this
  have hie : (!s.toList.isEmpty) = true := by
    rw [Lib.toList_data]
    cases hd : s.data.toList with
    | nil => rw [hd] at hk; cases hk
    | cons a l => rfl
  clear hl hr hk
  go_enter Tryd.func18, Tryd.ntmps18
  go_wp2_with (go_at_call 14; refine (HC.out _).mono ?_; rintro e w' ⟨rfl, hb⟩)
  all_goals
    go_ret2
    refine ⟨ret_lr ?_ ?_, hb⟩
    · rw [HL.out]; simp only [levelOf, *, if_true, Bool.false_eq_true, if_false]
    · rw [HR.out]; simp only [rightOf, *, if_true, Bool.false_eq_true, if_false]

theorem level_any (s : ByteArray) (w : World) (hs : s.size ≤ 140737488351232) : Calls Tryd.prog 18 #[.string s] w fun e w' => e = .returned (.tuple #[.int .i64 (levelL s.data.toList), .bool (rightL s.data.toList)]) ∧ Below w.heap.size w w' := by
  by_cases hk : kindL s.data.toList = 9
  · exact level_yes s w hs hk
  · exact level_no s w hs hk
end Go.Proofs.YtbbibngagdpdcaaDoor
