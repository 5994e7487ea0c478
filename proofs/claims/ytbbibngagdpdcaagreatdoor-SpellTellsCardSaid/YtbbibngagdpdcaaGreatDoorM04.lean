/-
  PROVED HERE: a part of the proof of the card 'SpellTellsCardSaid': what functions of the program, or of the document's packages, that SpellTells reaches compute (texts A4, A5). CONDITIONS: each theorem's own.
-/
import Derived.Test.YtbbibngagdpdcaaGreatDoorM03
namespace Go.Proofs.YtbbibngagdpdcaaGreatDoor
open Go Go.RowKit
open Go.Shelf

theorem isNaN_any (x : ByteArray) (w : World) : Calls Tryz.prog 66 #[.string x] w fun e w' => e = .returned (.bool false) ∧ w = w' := by
  go_enter Tryz.func66, Tryz.ntmps66
  go_wp2
  go_ret
  exact ⟨ret_bool (by simp), rfl⟩

theorem cisNaN_any (x : ByteArray) (w : World) : Calls Tryz.prog 87 #[.string x] w fun e w' => e = .returned (.bool false) ∧ w = w' := by
  go_enter Tryz.func87, Tryz.ntmps87
  go_wp2
  go_ret
  exact ⟨ret_bool (by simp), rfl⟩

theorem less_any (x y : ByteArray) (w : World) : Calls Tryz.prog 65 #[.string x, .string y] w fun e w' => e = .returned (.bool (Op.bytesLess x.toList y.toList)) ∧ w = w' := by
  go_enter Tryz.func65, Tryz.ntmps65
  go_wp2_with ((go_at_call 87; refine (cisNaN_any _ _).mono ?_; rintro e w' ⟨rfl, rfl⟩))
  go_ret
  exact ⟨rfl, rfl⟩

def foundAt (Sx : Nat → ByteArray) (x : ByteArray) (n : Nat) : Bool :=
  decide (Lib.bsGo (fun t => Op.bytesLess (Sx t).toList x.toList) n 0 n < n ∧ Sx (Lib.bsGo (fun t => Op.bytesLess (Sx t).toList x.toList) n 0 n) = x)

set_option maxHeartbeats 4000000 in
set_option maxRecDepth 1000000 in
theorem bsearch_any (b off n c : Nat) (Sx : Nat → ByteArray) (x : ByteArray) (w : World) (hbig : n < 4611686018427387904) (hc : ∀ j, j < n → w.cell? ⟨b, off + j, none⟩ = some (.string (Sx j))) :
    Calls Tryz.prog 53 #[.slice (some ⟨b, off, none⟩) n c, .string x] w fun e w' =>
      e = .returned (.tuple #[.int .i64 (Lib.bsGo (fun t => Op.bytesLess (Sx t).toList x.toList) n 0 n : Nat), .bool (foundAt Sx x n)]) ∧ ∃ q, w' = w.drewN q := by
  unfold foundAt
  obtain ⟨I, hI⟩ : ∃ I, Lib.bsGo (fun t => Op.bytesLess (Sx t).toList x.toList) n 0 n = I := ⟨_, rfl⟩
  rw [hI]
  go_enter Tryz.func53, Tryz.ntmps53
  go_wp2
  go_loopg [7, 8] n (fun g s7 s8 wr => ∃ lo hi q : Nat, s7 = .int .i64 lo ∧ s8 = .int .i64 hi ∧ lo ≤ hi ∧ hi ≤ n ∧ hi - lo ≤ g ∧ wr = w.drewN q ∧ Lib.bsGo (fun t => Op.bytesLess (Sx t).toList x.toList) g lo hi = I)
  case atStart => exact ⟨0, n, 0, rfl, rfl, Nat.zero_le _, Nat.le_refl _, by omega, rfl, hI⟩
  case round =>
    obtain ⟨lo, hi, q, rfl, rfl, hlh, hin, hg, rfl, hb⟩ := hrel
    by_cases hlt : lo < hi
    · have cm : w.cell? ⟨b, off + (lo + hi) / 2, none⟩ = some (.string (Sx ((lo + hi) / 2))) := hc _ (by omega)
      clear hc
      obtain ⟨g', rfl⟩ : ∃ g', gk = g' + 1 := ⟨gk - 1, by omega⟩
      simp only [Lib.bsGo, hlt, if_true] at hb
      obtain ⟨y, hy⟩ : ∃ y, Sx ((lo + hi) / 2) = y := ⟨_, rfl⟩
      rw [hy] at cm
      simp only [hy] at hb
      cases hyx : Op.bytesLess y.toList x.toList <;> simp only [hyx, if_true, Bool.false_eq_true, if_false] at hb
      · go_wp2_with (first | (go_at_call 65; refine (less_any _ _ _).mono ?_; rintro e w' ⟨rfl, rfl⟩) | (go_at_call 66; refine (isNaN_any _ _).mono ?_; rintro e w' ⟨rfl, rfl⟩))
        go_roundg ((lo + hi) / 2 - lo)
        case measure => omega
        case rel => exact ⟨lo, (lo + hi) / 2, _, rfl, by rw [show ((lo : Int) + (hi : Int)) / 2 = (((lo + hi) / 2 : Nat) : Int) by omega], by omega, by omega, Nat.le_refl _, rfl, by rw [← hb]; exact Lib.bsGo_fuel _ _ _ _ _ (Nat.le_refl _) (by omega)⟩
      · go_wp2_with (first | (go_at_call 65; refine (less_any _ _ _).mono ?_; rintro e w' ⟨rfl, rfl⟩) | (go_at_call 66; refine (isNaN_any _ _).mono ?_; rintro e w' ⟨rfl, rfl⟩))
        go_roundg (hi - ((lo + hi) / 2 + 1))
        case measure => omega
        case rel => exact ⟨(lo + hi) / 2 + 1, hi, _, by rw [show ((lo : Int) + (hi : Int)) / 2 + 1 = (((lo + hi) / 2 + 1 : Nat) : Int) by omega], rfl, by omega, hin, Nat.le_refl _, rfl, by rw [← hb]; exact Lib.bsGo_fuel _ _ _ _ _ (Nat.le_refl _) (by omega)⟩
    · have : hi = lo := by omega
      subst this
      have hIe : I = hi := by
        rw [← hb]
        cases gk <;> simp [Lib.bsGo]
      by_cases hn : hi < n
      · have cl : w.cell? ⟨b, off + hi, none⟩ = some (.string (Sx hi)) := hc _ hn
        clear hc hb hI
        obtain ⟨y, hy⟩ : ∃ y, Sx hi = y := ⟨_, rfl⟩
        rw [hy] at cl
        by_cases hyx : y = x
        · go_wp2_with (first | (go_at_call 65; refine (less_any _ _ _).mono ?_; rintro e w' ⟨rfl, rfl⟩) | (go_at_call 66; refine (isNaN_any _ _).mono ?_; rintro e w' ⟨rfl, rfl⟩))
          go_ret2
          refine ⟨?_, _, rfl⟩
          try rw [hIe]
          rw [hy, decide_eq_true (show hi < n ∧ y = x from ⟨hn, hyx⟩)]
          first | rfl | simp [*]
        · have hne : (y.toList == x.toList) = false := by
            rw [beq_eq_false_iff_ne]
            intro h
            apply hyx
            rw [Lib.toList_data, Lib.toList_data] at h
            cases y with
            | mk yd => cases x with
              | mk xd => exact congrArg ByteArray.mk (Array.toList_inj.1 h)
          go_wp2_with (first | (go_at_call 65; refine (less_any _ _ _).mono ?_; rintro e w' ⟨rfl, rfl⟩) | (go_at_call 66; refine (isNaN_any _ _).mono ?_; rintro e w' ⟨rfl, rfl⟩))
          all_goals
            (go_ret2
             refine ⟨?_, _, rfl⟩
             try rw [hIe]
             rw [hy, decide_eq_false (show ¬ (hi < n ∧ y = x) from fun h => hyx h.2)]
             first | rfl | simp [*])
      · clear hc hb hI
        go_wp2_with (first | (go_at_call 65; refine (less_any _ _ _).mono ?_; rintro e w' ⟨rfl, rfl⟩) | (go_at_call 66; refine (isNaN_any _ _).mono ?_; rintro e w' ⟨rfl, rfl⟩))
        go_ret2
        refine ⟨?_, _, rfl⟩
        try rw [hIe]
        rw [decide_eq_false (show ¬ (hi < n ∧ Sx hi = x) from fun h => hn h.1)]
        first | rfl | simp [*]

def keywordB (l : List UInt8) : Bool := kwTab.contains l

def kwS (j : Nat) : ByteArray := ⟨(kwTab.getD j []).toArray⟩

theorem kw_found (x : ByteArray) : foundAt kwS x 25 = keywordB x.data.toList := by
  have hS : ∀ j, (kwS j).toList = kwTab.getD j [] := fun j => by rw [Lib.toList_data]; rfl
  have hx : ∀ j, (kwS j = x ↔ kwTab.getD j [] = x.data.toList) := fun j => by
    cases x with
    | mk xd =>
      constructor
      · intro h
        rw [← h]
        rfl
      · intro h
        show (⟨(kwTab.getD j []).toArray⟩ : ByteArray) = ⟨xd⟩
        rw [h]
  unfold foundAt keywordB
  simp only [hS, hx]
  rw [Lib.toList_data]
  generalize x.data.toList = l
  by_cases hm : kwTab.contains l = true
  · rw [hm]
    have hl : l ∈ kwTab := by simpa using hm
    have all : ∀ l ∈ kwTab, decide (Lib.bsGo (fun t => Op.bytesLess (kwTab.getD t []) l) 25 0 25 < 25 ∧ kwTab.getD (Lib.bsGo (fun t => Op.bytesLess (kwTab.getD t []) l) 25 0 25) [] = l) = true := by decide +kernel
    exact all l hl
  · rw [Bool.not_eq_true] at hm
    rw [hm]
    refine decide_eq_false (fun h => ?_)
    have hl : l ∈ kwTab := by
      rw [← h.2, List.getD_eq_getElem?_getD, List.getElem?_eq_getElem (show _ < kwTab.length from h.1)]
      exact List.getElem_mem _
    rw [show kwTab.contains l = true by simpa using hl] at hm
    cases hm

set_option maxHeartbeats 400000 in
theorem Keyword_any (s : ByteArray) (w : World) : Calls Tryz.prog 37 #[.string s] w fun e w' => e = .returned (.bool (keywordB s.data.toList)) ∧ Below w.heap.size w w' := by
  go_enter Tryz.func37, Tryz.ntmps37
  go_wp2_with fail
  refine (Keywords_any _).mono ?_
  rintro e w1 ⟨v, rfl, hown, hb⟩
  rcases hown.2 with ⟨_, h0⟩ | ⟨g, cap, cur, rfl, hg, hh, hle, hcap, hcs, htk⟩
  · cases h0
  have hc : ∀ j, j < 25 → w1.cell? ⟨g, 0 + j, none⟩ = some (.string (kwS j)) := by
    intro j hj
    rw [Nat.zero_add, hown.cellAt j (by omega)]
    have hl : j < kwTab.length := hj
    rw [List.getElem?_map, List.getElem?_eq_getElem hl]
    simp [kwS, strV, List.getElem?_eq_getElem hl]
  have hcall := bsearch_any g 0 25 cap kwS s w1 (by decide) hc
  have HC := Lib.hid hcall
  clear hc hcall hown hh hle hcap hcs htk
  dsimp only
  go_wp2_with fail
  refine (HC.out).mono ?_
  rintro e w2 ⟨rfl, q, rfl⟩
  go_wp2
  go_ret
  exact ⟨ret_bool (kw_found s), below_draws hb q⟩
end Go.Proofs.YtbbibngagdpdcaaGreatDoor

namespace Go.Proofs.YtbbibngagdpdcaaGreatDoor
open Go Go.RowKit
open Go.Shelf

def kindRest (l : List UInt8) : Int :=
  match l with
  | [] => 0
  | c :: r =>
    if signB c.toNat && allB signB l then 9
    else if decide (c = 39) && ((match r with | [] => false | d :: _ => smallB d.toNat) && allB restB l) then 8
    else if (!smallB c.toNat && !greatB c.toNat) || !allB restB l then 0
    else if greatB c.toNat then 7
    else if keywordB l then 10
    else 6

/-- WHAT name.Kind GIVES. -/
def kindL (l : List UInt8) : Int := if l = [] then 0 else if markB l then 11 else kindRest l

theorem byteFn_sign : ByteFn 32 signB := fun c w _ _ => sign_any c w
theorem byteFn_rest : ByteFn 35 restB := fun c w _ _ => rest_any c w
theorem enters_sign : ∀ args w, (callFunc 32 args).run Tryz.prog w = .ok (.enter 32 args) w := enters_of Tryz.func32 (by kernel_rfl) rfl
theorem enters_rest : ∀ args w, (callFunc 35 args).run Tryz.prog w = .ok (.enter 35 args) w := enters_of Tryz.func35 (by kernel_rfl) rfl

theorem kind_empty (w : World) : Calls Tryz.prog 15 #[.string ⟨#[]⟩] w fun e w' => e = .returned (.int .i64 0) ∧ Below w.heap.size w w' := by
  go_enter Tryz.func15, Tryz.ntmps15
  go_wp2
  go_ret
  exact ⟨rfl, Below.refl _ _⟩

/-- .. by one bool a test. -/
def kindOf (mk sg asg q sm1 ars sm gr kw : Bool) : Int :=
  if mk then 11 else if sg && asg then 9 else if q && (sm1 && ars) then 8 else if (!sm && !gr) || !ars then 0 else if gr then 7 else if kw then 10 else 6

theorem list_two (s : ByteArray) (h1 : 1 < s.size) : ∃ r, s.data.toList = s[0] :: s[1] :: r := by
  obtain ⟨⟨l⟩⟩ := s
  match l, h1 with
  | a :: b :: r, _ => exact ⟨r, rfl⟩

theorem list_one (s : ByteArray) (h0 : s.size = 1) : s.data.toList = [s[0]] := by
  obtain ⟨⟨l⟩⟩ := s
  match l, h0 with
  | [a], _ => rfl

theorem q39 (c : UInt8) : decide (c = 39) = decide ((c.toNat : Int) = 39) := by
  rw [Bool.eq_iff_iff]
  simp only [decide_eq_true_eq]
  constructor
  · rintro rfl; rfl
  · intro h
    exact UInt8.toNat_inj.1 (by simpa using (by omega : c.toNat = 39))

theorem kindL_two (s : ByteArray) (h1 : 1 < s.size) :
    kindL s.data.toList = kindOf (markB s.data.toList) (signB s[0].toNat) (allB signB s.data.toList) (decide ((s[0].toNat : Int) = 39)) (smallB s[1].toNat) (allB restB s.data.toList) (smallB s[0].toNat) (greatB s[0].toNat) (keywordB s.data.toList) := by
  obtain ⟨r, hr⟩ := list_two s h1
  rw [hr]
  simp only [kindL, kindRest, kindOf, q39, reduceCtorEq, if_false]

theorem kindL_one (s : ByteArray) (h0 : 0 < s.size) (h2 : s.size ≤ 1) :
    kindL s.data.toList = kindOf (markB s.data.toList) (signB s[0].toNat) (allB signB s.data.toList) (decide ((s[0].toNat : Int) = 39)) false (allB restB s.data.toList) (smallB s[0].toNat) (greatB s[0].toNat) (keywordB s.data.toList) := by
  rw [list_one s (by omega)]
  simp only [kindL, kindRest, kindOf, q39, reduceCtorEq, if_false]

theorem ret_i64 {a b : Int} (h : a = b) : Ending.returned (.int .i64 a) = .returned (.int .i64 b) := by rw [h]

set_option maxHeartbeats 1000000 in
theorem kind_two (s : ByteArray) (h1 : 1 < s.size) (w : World) (hs : s.size ≤ 140737488351232) : Calls Tryz.prog 15 #[.string s] w fun e w' => e = .returned (.int .i64 (kindL s.data.toList)) ∧ Below w.heap.size w w' := by
  obtain ⟨r, hr⟩ := list_two s h1
  have hne : (s.toList == []) = false := by rw [Lib.toList_data, hr]; rfl
  have hie : (!s.toList.isEmpty) = true := by rw [Lib.toList_data, hr]; rfl
  have h39 : signB 39 = false := by decide
  have hs39 : smallB 39 = false := by decide
  have hg39 : greatB 39 = false := by decide
  have HK := Lib.hid (kindL_two s h1)
  clear hr
  go_enter Tryz.func15, Tryz.ntmps15
  go_wp2_with (first | (go_at_call 31; refine (mark_any _ _).mono ?_; rintro e w' ⟨rfl, rfl⟩) | (go_at_call 32; refine (sign_any _ _).mono ?_; rintro e w' ⟨rfl, rfl⟩) | (go_at_call 34; refine (small_any _ _).mono ?_; rintro e w' ⟨rfl, rfl⟩) | (go_at_call 36; refine (great_any _ _).mono ?_; rintro e w' ⟨rfl, rfl⟩) | (go_at_call 33; (with_reducible refine (all_any 32 _ enters_sign byteFn_sign _ _ hs).mono ?_); rintro e w' ⟨rfl, rfl⟩) | (go_at_call 33; (with_reducible refine (all_any 35 _ enters_rest byteFn_rest _ _ hs).mono ?_); rintro e w' ⟨rfl, rfl⟩) | (go_at_call 37; refine (Keyword_any _ _).mono ?_; rintro e w' ⟨rfl, hb⟩))
  all_goals
    go_ret
    refine ⟨ret_i64 ?_, by first | exact hb | exact Below.refl _ _⟩
    rw [HK.out]
    simp_all [kindOf]

set_option maxHeartbeats 1000000 in
theorem kind_one (s : ByteArray) (h0 : 0 < s.size) (h2 : s.size ≤ 1) (w : World) (hs : s.size ≤ 140737488351232) : Calls Tryz.prog 15 #[.string s] w fun e w' => e = .returned (.int .i64 (kindL s.data.toList)) ∧ Below w.heap.size w w' := by
  have hr := list_one s (by omega)
  have hne : (s.toList == []) = false := by rw [Lib.toList_data, hr]; rfl
  have hie : (!s.toList.isEmpty) = true := by rw [Lib.toList_data, hr]; rfl
  have h39 : signB 39 = false := by decide
  have hs39 : smallB 39 = false := by decide
  have hg39 : greatB 39 = false := by decide
  have HK := Lib.hid (kindL_one s h0 h2)
  clear hr
  go_enter Tryz.func15, Tryz.ntmps15
  go_wp2_with (first | (go_at_call 31; refine (mark_any _ _).mono ?_; rintro e w' ⟨rfl, rfl⟩) | (go_at_call 32; refine (sign_any _ _).mono ?_; rintro e w' ⟨rfl, rfl⟩) | (go_at_call 34; refine (small_any _ _).mono ?_; rintro e w' ⟨rfl, rfl⟩) | (go_at_call 36; refine (great_any _ _).mono ?_; rintro e w' ⟨rfl, rfl⟩) | (go_at_call 33; (with_reducible refine (all_any 32 _ enters_sign byteFn_sign _ _ hs).mono ?_); rintro e w' ⟨rfl, rfl⟩) | (go_at_call 33; (with_reducible refine (all_any 35 _ enters_rest byteFn_rest _ _ hs).mono ?_); rintro e w' ⟨rfl, rfl⟩) | (go_at_call 37; refine (Keyword_any _ _).mono ?_; rintro e w' ⟨rfl, hb⟩))
  all_goals
    go_ret
    refine ⟨ret_i64 ?_, by first | exact hb | exact Below.refl _ _⟩
    rw [HK.out]
    simp_all [kindOf]

theorem kind_any (s : ByteArray) (w : World) (hs : s.size ≤ 140737488351232) : Calls Tryz.prog 15 #[.string s] w fun e w' => e = .returned (.int .i64 (kindL s.data.toList)) ∧ Below w.heap.size w w' := by
  by_cases h0 : s.size = 0
  · obtain rfl : s = ⟨#[]⟩ := by
      cases s with
      | mk a => exact congrArg ByteArray.mk (Array.eq_empty_of_size_eq_zero h0)
    exact kind_empty w
  · by_cases h1 : s.size = 1
    · exact kind_one s (by omega) (by omega) w hs
    · exact kind_two s (by omega) w hs
end Go.Proofs.YtbbibngagdpdcaaGreatDoor
