import Derived.Test.YtbbibngagdpdcaaDoorA4
namespace Go.Proofs.YtbbibngagdpdcaaDoor
open Go Go.RowKit
open Go.Shelf

def kindRest (l : List UInt8) : Int :=
  match l with
  | [] => 0
  | c :: r =>
    if signB c.toNat && allB signB l then 9
    else if decide (c = 39) && ((match r with | [] => false | d :: _ => smallB d.toNat) && allB restB l) then 8
    else if (!smallB c.toNat && !greatB c.toNat) || !allB restB l then 0
    else if greatB c.toNat then 7
    else if keywordB l then 10
    else 6

/-- WHAT name.Kind GIVES. -/
def kindL (l : List UInt8) : Int := if l = [] then 0 else if markB l then 11 else kindRest l

theorem byteFn_sign : ByteFn 21 signB := fun c w _ _ => sign_any c w
theorem byteFn_rest : ByteFn 24 restB := fun c w _ _ => rest_any c w
theorem enters_sign : ∀ args w, (callFunc 21 args).run Tryd.prog w = .ok (.enter 21 args) w := enters_of Tryd.func21 (by kernel_rfl) rfl
theorem enters_rest : ∀ args w, (callFunc 24 args).run Tryd.prog w = .ok (.enter 24 args) w := enters_of Tryd.func24 (by kernel_rfl) rfl

theorem kind_empty (w : World) : Calls Tryd.prog 14 #[.string ⟨#[]⟩] w fun e w' => e = .returned (.int .i64 0) ∧ Below w.heap.size w w' := by
  go_enter Tryd.func14, Tryd.ntmps14
  go_wp2
  go_ret
  exact ⟨rfl, Below.refl _ _⟩

/-- .. by one bool a test. -/
def kindOf (mk sg asg q sm1 ars sm gr kw : Bool) : Int :=
  if mk then 11 else if sg && asg then 9 else if q && (sm1 && ars) then 8 else if (!sm && !gr) || !ars then 0 else if gr then 7 else if kw then 10 else 6

theorem list_two (s : ByteArray) (h1 : 1 < s.size) : ∃ r, s.data.toList = s[0] :: s[1] :: r := by
  obtain ⟨⟨l⟩⟩ := s
  match l, h1 with
  | a :: b :: r, _ => exact ⟨r, rfl⟩

theorem list_one (s : ByteArray) (h0 : s.size = 1) : s.data.toList = [s[0]] := by
  obtain ⟨⟨l⟩⟩ := s
  match l, h0 with
  | [a], _ => rfl

theorem q39 (c : UInt8) : decide (c = 39) = decide ((c.toNat : Int) = 39) := by
  rw [Bool.eq_iff_iff]
  simp only [decide_eq_true_eq]
  constructor
  · rintro rfl; rfl
  · intro h
    exact UInt8.toNat_inj.1 (by simpa using (by omega : c.toNat = 39))

theorem kindL_two (s : ByteArray) (h1 : 1 < s.size) :
    kindL s.data.toList = kindOf (markB s.data.toList) (signB s[0].toNat) (allB signB s.data.toList) (decide ((s[0].toNat : Int) = 39)) (smallB s[1].toNat) (allB restB s.data.toList) (smallB s[0].toNat) (greatB s[0].toNat) (keywordB s.data.toList) := by
  obtain ⟨r, hr⟩ := list_two s h1
  rw [hr]
  simp only [kindL, kindRest, kindOf, q39, reduceCtorEq, if_false]

theorem kindL_one (s : ByteArray) (h0 : 0 < s.size) (h2 : s.size ≤ 1) :
    kindL s.data.toList = kindOf (markB s.data.toList) (signB s[0].toNat) (allB signB s.data.toList) (decide ((s[0].toNat : Int) = 39)) false (allB restB s.data.toList) (smallB s[0].toNat) (greatB s[0].toNat) (keywordB s.data.toList) := by
  rw [list_one s (by omega)]
  simp only [kindL, kindRest, kindOf, q39, reduceCtorEq, if_false]

theorem ret_i64 {a b : Int} (h : a = b) : Ending.returned (.int .i64 a) = .returned (.int .i64 b) := by rw [h]

set_option maxHeartbeats 1000000 in
theorem kind_two (s : ByteArray) (h1 : 1 < s.size) (w : World) (hs : s.size ≤ 140737488351232) : Calls Tryd.prog 14 #[.string s] w fun e w' => e = .returned (.int .i64 (kindL s.data.toList)) ∧ Below w.heap.size w w' := by
  obtain ⟨r, hr⟩ := list_two s h1
  have hne : (s.toList == []) = false := by rw [Lib.toList_data, hr]; rfl
  have hie : (!s.toList.isEmpty) = true := by rw [Lib.toList_data, hr]; rfl
  have h39 : signB 39 = false := by decide
  have hs39 : smallB 39 = false := by decide
  have hg39 : greatB 39 = false := by decide
  have HK := Lib.hid (kindL_two s h1)
  clear hr
  go_enter Tryd.func14, Tryd.ntmps14
  go_wp2_with (first | (go_at_call 20; refine (mark_any _ _).mono ?_; rintro e w' ⟨rfl, rfl⟩) | (go_at_call 21; refine (sign_any _ _).mono ?_; rintro e w' ⟨rfl, rfl⟩) | (go_at_call 23; refine (small_any _ _).mono ?_; rintro e w' ⟨rfl, rfl⟩) | (go_at_call 25; refine (great_any _ _).mono ?_; rintro e w' ⟨rfl, rfl⟩) | (go_at_call 22; (with_reducible refine (all_any 21 _ enters_sign byteFn_sign _ _ hs).mono ?_); rintro e w' ⟨rfl, rfl⟩) | (go_at_call 22; (with_reducible refine (all_any 24 _ enters_rest byteFn_rest _ _ hs).mono ?_); rintro e w' ⟨rfl, rfl⟩) | (go_at_call 26; refine (Keyword_any _ _).mono ?_; rintro e w' ⟨rfl, hb⟩))
  all_goals
    go_ret
    refine ⟨ret_i64 ?_, by first | exact hb | exact Below.refl _ _⟩
    rw [HK.out]
    simp_all [kindOf]

set_option maxHeartbeats 1000000 in
theorem kind_one (s : ByteArray) (h0 : 0 < s.size) (h2 : s.size ≤ 1) (w : World) (hs : s.size ≤ 140737488351232) : Calls Tryd.prog 14 #[.string s] w fun e w' => e = .returned (.int .i64 (kindL s.data.toList)) ∧ Below w.heap.size w w' := by
  have hr := list_one s (by omega)
  have hne : (s.toList == []) = false := by rw [Lib.toList_data, hr]; rfl
  have hie : (!s.toList.isEmpty) = true := by rw [Lib.toList_data, hr]; rfl
  have h39 : signB 39 = false := by decide
  have hs39 : smallB 39 = false := by decide
  have hg39 : greatB 39 = false := by decide
  have HK := Lib.hid (kindL_one s h0 h2)
  clear hr
  go_enter Tryd.func14, Tryd.ntmps14
  go_wp2_with (first | (go_at_call 20; refine (mark_any _ _).mono ?_; rintro e w' ⟨rfl, rfl⟩) | (go_at_call 21; refine (sign_any _ _).mono ?_; rintro e w' ⟨rfl, rfl⟩) | (go_at_call 23; refine (small_any _ _).mono ?_; rintro e w' ⟨rfl, rfl⟩) | (go_at_call 25; refine (great_any _ _).mono ?_; rintro e w' ⟨rfl, rfl⟩) | (go_at_call 22; (with_reducible refine (all_any 21 _ enters_sign byteFn_sign _ _ hs).mono ?_); rintro e w' ⟨rfl, rfl⟩) | (go_at_call 22; (with_reducible refine (all_any 24 _ enters_rest byteFn_rest _ _ hs).mono ?_); rintro e w' ⟨rfl, rfl⟩) | (go_at_call 26; refine (Keyword_any _ _).mono ?_; rintro e w' ⟨rfl, hb⟩))
  all_goals
    go_ret
    refine ⟨ret_i64 ?_, by first | exact hb | exact Below.refl _ _⟩
    rw [HK.out]
    simp_all [kindOf]

theorem kind_any (s : ByteArray) (w : World) (hs : s.size ≤ 140737488351232) : Calls Tryd.prog 14 #[.string s] w fun e w' => e = .returned (.int .i64 (kindL s.data.toList)) ∧ Below w.heap.size w w' := by
  by_cases h0 : s.size = 0
  · obtain rfl : s = ⟨#[]⟩ := by
      cases s with
      | mk a => exact congrArg ByteArray.mk (Array.eq_empty_of_size_eq_zero h0)
    exact kind_empty w
  · by_cases h1 : s.size = 1
    · exact kind_one s (by omega) (by omega) w hs
    · exact kind_two s (by omega) w hs
end Go.Proofs.YtbbibngagdpdcaaDoor
