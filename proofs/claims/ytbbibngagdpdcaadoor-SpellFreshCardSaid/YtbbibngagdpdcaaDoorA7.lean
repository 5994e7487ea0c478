import Derived.Test.YtbbibngagdpdcaaDoorA6
namespace Go.Proofs.YtbbibngagdpdcaaDoor
open Go Go.RowKit
open Go.Shelf

theorem Below.next {B : Nat} {w w1 w2 : World} (h : Below B w w1) (hB : B ≤ w.heap.size) (h' : Below w1.heap.size w1 w2) : Below B w w2 :=
  h.trans (h'.mono (Nat.le_trans hB h.size))

/-- WHAT name.Alike GIVES. -/
def alikeL (a b : List UInt8) : Bool :=
  if kindL a != kindL b then false
  else if kindL a == 9 then levelL a == levelL b && rightL a == rightL b
  else if kindL a == 6 then true
  else if kindL a == 7 then true
  else false

set_option maxHeartbeats 1000000 in
theorem alike_any (a b : ByteArray) (w : World) (ha : a.size ≤ 140737488351232) (hb : b.size ≤ 140737488351232) :
    Calls Tryd.prog 8 #[.string a, .string b] w fun e w' => e = .returned (.bool (alikeL a.data.toList b.data.toList)) ∧ Below w.heap.size w w' := by
  go_enter Tryd.func8, Tryd.ntmps8
  go_wp2_with fail
  refine (kind_any a _ ha).mono ?_
  rintro e w1 ⟨rfl, hb1⟩
  dsimp only
  go_wp2_with fail
  refine (kind_any b _ hb).mono ?_
  rintro e w2 ⟨rfl, hb2'⟩
  have hb2 := Below.next hb1 (Nat.le_refl _) hb2'
  clear hb1 hb2'
  dsimp only
  go_wp2_with (first | (go_at_call 18; (with_reducible refine (level_any a _ ha).mono ?_); rintro e w3 ⟨rfl, hb3⟩) | (go_at_call 18; (with_reducible refine (level_any b _ hb).mono ?_); rintro e w4 ⟨rfl, hb4⟩))
  all_goals
    go_ret
    refine ⟨ret_bool ?_, by first | exact Below.next (Below.next hb2 (Nat.le_refl _) hb3) (Nat.le_refl _) hb4 | exact hb2⟩
    simp only [alikeL, *, if_true, Bool.false_eq_true, if_false]
  · simp
  · have h : ¬ levelL a.data.toList = levelL b.data.toList := by assumption
    rw [beq_eq_false_iff_ne.2 h, Bool.false_and]

set_option maxHeartbeats 400000 in
theorem space_1 (w : World) : Calls Tryd.prog 27 #[.int .i64 1] w fun e w' => e = .returned (.string ⟨#[118, 97, 108, 117, 101]⟩) ∧ Below w.heap.size w w' := by
  go_enter Tryd.func27, Tryd.ntmps27
  go_wp2
  go_ret
  exact ⟨rfl, (Below.refl _ w).alloc (Nat.le_refl _) _⟩

set_option maxHeartbeats 400000 in
theorem space_4 (w : World) : Calls Tryd.prog 27 #[.int .i64 4] w fun e w' => e = .returned (.string ⟨#[115, 116, 114, 117, 99, 116, 117, 114, 101]⟩) ∧ Below w.heap.size w w' := by
  go_enter Tryd.func27, Tryd.ntmps27
  go_wp2
  go_ret
  exact ⟨rfl, (Below.refl _ w).alloc (Nat.le_refl _) _⟩

theorem may_1 (s : ByteArray) (w : World) (hs : s.size ≤ 140737488351232) : Calls Tryd.prog 28 #[.int .i64 1, .string s] w fun e w' => e = .returned (.bool (kindL s.data.toList == 6 || kindL s.data.toList == 9)) ∧ Below w.heap.size w w' := by
  go_enter Tryd.func28, Tryd.ntmps28
  go_wp2_with (go_at_call 14; refine (kind_any _ _ hs).mono ?_; rintro e w' ⟨rfl, hb⟩)
  all_goals
    go_ret
    refine ⟨ret_bool ?_, hb⟩
    simp [*]

theorem may_4 (s : ByteArray) (w : World) (hs : s.size ≤ 140737488351232) : Calls Tryd.prog 28 #[.int .i64 4, .string s] w fun e w' => e = .returned (.bool (kindL s.data.toList == 7)) ∧ Below w.heap.size w w' := by
  go_enter Tryd.func28, Tryd.ntmps28
  go_wp2_with (go_at_call 14; refine (kind_any _ _ hs).mono ?_; rintro e w' ⟨rfl, hb⟩)
  go_ret
  exact ⟨rfl, hb⟩
end Go.Proofs.YtbbibngagdpdcaaDoor
