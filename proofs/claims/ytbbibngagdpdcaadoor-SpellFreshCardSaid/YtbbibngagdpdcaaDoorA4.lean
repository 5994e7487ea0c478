import Derived.Test.YtbbibngagdpdcaaDoorA3
namespace Go.Proofs.YtbbibngagdpdcaaDoor
open Go Go.RowKit
open Go.Shelf

theorem isNaN_any (x : ByteArray) (w : World) : Calls Tryd.prog 49 #[.string x] w fun e w' => e = .returned (.bool false) ∧ w = w' := by
  go_enter Tryd.func49, Tryd.ntmps49
  go_wp2
  go_ret
  exact ⟨ret_bool (by simp), rfl⟩

theorem cisNaN_any (x : ByteArray) (w : World) : Calls Tryd.prog 66 #[.string x] w fun e w' => e = .returned (.bool false) ∧ w = w' := by
  go_enter Tryd.func66, Tryd.ntmps66
  go_wp2
  go_ret
  exact ⟨ret_bool (by simp), rfl⟩

theorem less_any (x y : ByteArray) (w : World) : Calls Tryd.prog 48 #[.string x, .string y] w fun e w' => e = .returned (.bool (Op.bytesLess x.toList y.toList)) ∧ w = w' := by
  go_enter Tryd.func48, Tryd.ntmps48
  go_wp2_with ((go_at_call 66; refine (cisNaN_any _ _).mono ?_; rintro e w' ⟨rfl, rfl⟩))
  go_ret
  exact ⟨rfl, rfl⟩

def foundAt (Sx : Nat → ByteArray) (x : ByteArray) (n : Nat) : Bool :=
  decide (Lib.bsGo (fun t => Op.bytesLess (Sx t).toList x.toList) n 0 n < n ∧ Sx (Lib.bsGo (fun t => Op.bytesLess (Sx t).toList x.toList) n 0 n) = x)

set_option maxHeartbeats 4000000 in
set_option maxRecDepth 1000000 in
theorem bsearch_any (b off n c : Nat) (Sx : Nat → ByteArray) (x : ByteArray) (w : World) (hbig : n < 4611686018427387904) (hc : ∀ j, j < n → w.cell? ⟨b, off + j, none⟩ = some (.string (Sx j))) :
    Calls Tryd.prog 37 #[.slice (some ⟨b, off, none⟩) n c, .string x] w fun e w' =>
      e = .returned (.tuple #[.int .i64 (Lib.bsGo (fun t => Op.bytesLess (Sx t).toList x.toList) n 0 n : Nat), .bool (foundAt Sx x n)]) ∧ ∃ q, w' = w.drewN q := by
  unfold foundAt
  obtain ⟨I, hI⟩ : ∃ I, Lib.bsGo (fun t => Op.bytesLess (Sx t).toList x.toList) n 0 n = I := ⟨_, rfl⟩
  rw [hI]
  go_enter Tryd.func37, Tryd.ntmps37
  go_wp2
  go_loopg [7, 8] n (fun g s7 s8 wr => ∃ lo hi q : Nat, s7 = .int .i64 lo ∧ s8 = .int .i64 hi ∧ lo ≤ hi ∧ hi ≤ n ∧ hi - lo ≤ g ∧ wr = w.drewN q ∧ Lib.bsGo (fun t => Op.bytesLess (Sx t).toList x.toList) g lo hi = I)
  case atStart => exact ⟨0, n, 0, rfl, rfl, Nat.zero_le _, Nat.le_refl _, by omega, rfl, hI⟩
  case round =>
    obtain ⟨lo, hi, q, rfl, rfl, hlh, hin, hg, rfl, hb⟩ := hrel
    by_cases hlt : lo < hi
    · have cm : w.cell? ⟨b, off + (lo + hi) / 2, none⟩ = some (.string (Sx ((lo + hi) / 2))) := hc _ (by omega)
      clear hc
      obtain ⟨g', rfl⟩ : ∃ g', gk = g' + 1 := ⟨gk - 1, by omega⟩
      simp only [Lib.bsGo, hlt, if_true] at hb
      obtain ⟨y, hy⟩ : ∃ y, Sx ((lo + hi) / 2) = y := ⟨_, rfl⟩
      rw [hy] at cm
      simp only [hy] at hb
      cases hyx : Op.bytesLess y.toList x.toList <;> simp only [hyx, if_true, Bool.false_eq_true, if_false] at hb
      · go_wp2_with (first | (go_at_call 48; refine (less_any _ _ _).mono ?_; rintro e w' ⟨rfl, rfl⟩) | (go_at_call 49; refine (isNaN_any _ _).mono ?_; rintro e w' ⟨rfl, rfl⟩))
        go_roundg ((lo + hi) / 2 - lo)
        case measure => omega
        case rel => exact ⟨lo, (lo + hi) / 2, _, rfl, by rw [show ((lo : Int) + (hi : Int)) / 2 = (((lo + hi) / 2 : Nat) : Int) by omega], by omega, by omega, Nat.le_refl _, rfl, by rw [← hb]; exact Lib.bsGo_fuel _ _ _ _ _ (Nat.le_refl _) (by omega)⟩
      · go_wp2_with (first | (go_at_call 48; refine (less_any _ _ _).mono ?_; rintro e w' ⟨rfl, rfl⟩) | (go_at_call 49; refine (isNaN_any _ _).mono ?_; rintro e w' ⟨rfl, rfl⟩))
        go_roundg (hi - ((lo + hi) / 2 + 1))
        case measure => omega
        case rel => exact ⟨(lo + hi) / 2 + 1, hi, _, by rw [show ((lo : Int) + (hi : Int)) / 2 + 1 = (((lo + hi) / 2 + 1 : Nat) : Int) by omega], rfl, by omega, hin, Nat.le_refl _, rfl, by rw [← hb]; exact Lib.bsGo_fuel _ _ _ _ _ (Nat.le_refl _) (by omega)⟩
    · have : hi = lo := by omega
      subst this
      have hIe : I = hi := by
        rw [← hb]
        cases gk <;> simp [Lib.bsGo]
      by_cases hn : hi < n
      · have cl : w.cell? ⟨b, off + hi, none⟩ = some (.string (Sx hi)) := hc _ hn
        clear hc hb hI
        obtain ⟨y, hy⟩ : ∃ y, Sx hi = y := ⟨_, rfl⟩
        rw [hy] at cl
        by_cases hyx : y = x
        · go_wp2_with (first | (go_at_call 48; refine (less_any _ _ _).mono ?_; rintro e w' ⟨rfl, rfl⟩) | (go_at_call 49; refine (isNaN_any _ _).mono ?_; rintro e w' ⟨rfl, rfl⟩))
          go_ret2
          refine ⟨?_, _, rfl⟩
          try rw [hIe]
          rw [hy, decide_eq_true (show hi < n ∧ y = x from ⟨hn, hyx⟩)]
          first | rfl | simp [*]
        · have hne : (y.toList == x.toList) = false := by
            rw [beq_eq_false_iff_ne]
            intro h
            apply hyx
            rw [Lib.toList_data, Lib.toList_data] at h
            cases y with
            | mk yd => cases x with
              | mk xd => exact congrArg ByteArray.mk (Array.toList_inj.1 h)
          go_wp2_with (first | (go_at_call 48; refine (less_any _ _ _).mono ?_; rintro e w' ⟨rfl, rfl⟩) | (go_at_call 49; refine (isNaN_any _ _).mono ?_; rintro e w' ⟨rfl, rfl⟩))
          all_goals
            (go_ret2
             refine ⟨?_, _, rfl⟩
             try rw [hIe]
             rw [hy, decide_eq_false (show ¬ (hi < n ∧ y = x) from fun h => hyx h.2)]
             first | rfl | simp [*])
      · clear hc hb hI
        go_wp2_with (first | (go_at_call 48; refine (less_any _ _ _).mono ?_; rintro e w' ⟨rfl, rfl⟩) | (go_at_call 49; refine (isNaN_any _ _).mono ?_; rintro e w' ⟨rfl, rfl⟩))
        go_ret2
        refine ⟨?_, _, rfl⟩
        try rw [hIe]
        rw [decide_eq_false (show ¬ (hi < n ∧ Sx hi = x) from fun h => hn h.1)]
        first | rfl | simp [*]

def keywordB (l : List UInt8) : Bool := kwTab.contains l

def kwS (j : Nat) : ByteArray := ⟨(kwTab.getD j []).toArray⟩

theorem kw_found (x : ByteArray) : foundAt kwS x 25 = keywordB x.data.toList := by
  have hS : ∀ j, (kwS j).toList = kwTab.getD j [] := fun j => by rw [Lib.toList_data]; rfl
  have hx : ∀ j, (kwS j = x ↔ kwTab.getD j [] = x.data.toList) := fun j => by
    cases x with
    | mk xd =>
      constructor
      · intro h
        rw [← h]
        rfl
      · intro h
        show (⟨(kwTab.getD j []).toArray⟩ : ByteArray) = ⟨xd⟩
        rw [h]
  unfold foundAt keywordB
  simp only [hS, hx]
  rw [Lib.toList_data]
  generalize x.data.toList = l
  by_cases hm : kwTab.contains l = true
  · rw [hm]
    have hl : l ∈ kwTab := by simpa using hm
    have all : ∀ l ∈ kwTab, decide (Lib.bsGo (fun t => Op.bytesLess (kwTab.getD t []) l) 25 0 25 < 25 ∧ kwTab.getD (Lib.bsGo (fun t => Op.bytesLess (kwTab.getD t []) l) 25 0 25) [] = l) = true := by decide +kernel
    exact all l hl
  · rw [Bool.not_eq_true] at hm
    rw [hm]
    refine decide_eq_false (fun h => ?_)
    have hl : l ∈ kwTab := by
      rw [← h.2, List.getD_eq_getElem?_getD, List.getElem?_eq_getElem (show _ < kwTab.length from h.1)]
      exact List.getElem_mem _
    rw [show kwTab.contains l = true by simpa using hl] at hm
    cases hm

set_option maxHeartbeats 400000 in
theorem Keyword_any (s : ByteArray) (w : World) : Calls Tryd.prog 26 #[.string s] w fun e w' => e = .returned (.bool (keywordB s.data.toList)) ∧ Below w.heap.size w w' := by
  go_enter Tryd.func26, Tryd.ntmps26
  go_wp2_with fail
  refine (Keywords_any _).mono ?_
  rintro e w1 ⟨v, rfl, hown, hb⟩
  rcases hown.2 with ⟨_, h0⟩ | ⟨g, cap, cur, rfl, hg, hh, hle, hcap, hcs, htk⟩
  · cases h0
  have hc : ∀ j, j < 25 → w1.cell? ⟨g, 0 + j, none⟩ = some (.string (kwS j)) := by
    intro j hj
    rw [Nat.zero_add, hown.cellAt j (by omega)]
    have hl : j < kwTab.length := hj
    rw [List.getElem?_map, List.getElem?_eq_getElem hl]
    simp [kwS, strV, List.getElem?_eq_getElem hl]
  have hcall := bsearch_any g 0 25 cap kwS s w1 (by decide) hc
  have HC := Lib.hid hcall
  clear hc hcall hown hh hle hcap hcs htk
  dsimp only
  go_wp2_with fail
  refine (HC.out).mono ?_
  rintro e w2 ⟨rfl, q, rfl⟩
  go_wp2
  go_ret
  exact ⟨ret_bool (kw_found s), below_draws hb q⟩
end Go.Proofs.YtbbibngagdpdcaaDoor
