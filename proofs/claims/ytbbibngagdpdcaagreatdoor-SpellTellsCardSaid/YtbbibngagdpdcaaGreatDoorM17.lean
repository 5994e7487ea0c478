/-
  PROVED HERE: a part of the proof of the card 'SpellTellsCardSaid': what functions of the program, or of the document's packages, that SpellTells reaches compute (texts G1). CONDITIONS: each theorem's own.
-/
import Derived.Test.YtbbibngagdpdcaaGreatDoorM16
namespace Go.Proofs.YtbbibngagdpdcaaGreatDoor
open Go Go.RowKit
open Go.Shelf

theorem strsAt_alloc (w : World) (zs : List (List UInt8)) : StrsAt (w.alloc (.cells (zs.map strV).toArray 9)) (.slice (some ⟨w.heap.size, 0, none⟩) zs.length zs.length) zs := by
  refine ⟨_, _, rfl, .inr ⟨w.heap.size, 0, rfl, by simp, fun j hj => ?_⟩⟩
  rw [new_cell _ _ _ _ _ rfl]
  simp [List.getD, hj]

/-- THE DOCUMENT's MARKS. -/
def docMarks : List (List UInt8) := [[40], [41], [44], [46], [59], [95], [61], [61, 62], [124], [58], [58, 62], [45, 62]]

theorem rMarks_any (w : World) : Calls Tryz.prog 24 #[] w fun e w' => ∃ v, e = .returned v ∧ StrsAt w' v docMarks ∧ Below w.heap.size w w' := by
  go_enter Tryz.func24, Tryz.ntmps24
  go_wp2
  go_ret
  exact ⟨_, rfl, strsAt_alloc w docMarks, (Below.refl _ w).alloc (Nat.le_refl _) _⟩

set_option maxRecDepth 100000 in
theorem rKeywords_any (w : World) : Calls Tryz.prog 29 #[] w fun e w' => ∃ v, e = .returned v ∧ StrsAt w' v kwTab ∧ Below w.heap.size w w' := by
  go_enter Tryz.func29, Tryz.ntmps29
  go_wp2
  go_ret
  exact ⟨_, rfl, strsAt_alloc w kwTab, (Below.refl _ w).alloc (Nat.le_refl _) _⟩

theorem mark_doc (l : List UInt8) : docMarks.contains l = markB l := by
  rw [Bool.eq_iff_iff, List.contains_iff_mem]
  unfold markB reservedB docMarks
  simp only [List.mem_cons, List.not_mem_nil, or_false, Bool.or_eq_true, decide_eq_true_eq]
  have h1 : oneMark l = true ↔ (l = [40] ∨ l = [41] ∨ l = [44] ∨ l = [46] ∨ l = [59] ∨ l = [95]) := by
    unfold oneMark
    split
    · rename_i c
      simp
    · rename_i h
      constructor
      · intro h2; cases h2
      · rintro (rfl | rfl | rfl | rfl | rfl | rfl) <;> exact absurd rfl (h _)
  rw [h1]
  constructor
  · rintro (h|h|h|h|h|h|h|h|h|h|h|h) <;> simp [h]
  · rintro ((h|h|h|h|h|h)|(h|h|h|h|h|h)) <;> simp [h]

/-- THE DOCUMENT's KIND, one bool a test. -/
def kindDoc (mk sg rs gr q sm1 sm kw : Bool) : Int := if mk then 11 else if sg then 9 else if !rs then 0 else if gr then 7 else if q && sm1 then 8 else if !sm then 0 else if kw then 10 else 6

theorem kindOf_doc {mk sg asg q sm1 ars sm gr kw : Bool} (h1 : asg = true → sg = true) (h2 : q = true → sm = false ∧ gr = false) (h3 : gr = true → sm = false) (h4 : gr = false → sm = false → ars = true → q && sm1 = true → True) :
    kindOf mk sg asg q sm1 ars sm gr kw = kindDoc mk asg ars gr q sm1 sm kw := by
  unfold kindOf kindDoc
  revert h1 h2 h3
  cases mk <;> cases sg <;> cases asg <;> cases q <;> cases sm1 <;> cases ars <;> cases sm <;> cases gr <;> cases kw <;> simp

theorem allB_head (p : Int → Bool) (s : ByteArray) (h0 : 0 < s.size) (h : allB p s.data.toList = true) : p s[0].toNat = true := by
  unfold allB at h
  have := List.all_eq_true.1 h (s.data.toList[0]'(by simpa using h0)) (List.getElem_mem _)
  have h2 : p (s.data[0]'h0).toNat = true := by simpa using this
  exact h2

theorem data_some (s : ByteArray) (h0 : 0 < s.size) : s.data.toList ≠ [] := by
  intro h
  have h1 : s.data.toList.length = 0 := by rw [h]; rfl
  rw [Array.length_toList] at h1
  have h2 : s.data.size = s.size := rfl
  omega

theorem quote_facts (c : UInt8) (h : decide ((c.toNat : Int) = 39) = true) : smallB c.toNat = false ∧ greatB c.toNat = false := by
  have hc : (c.toNat : Int) = 39 := by simpa using h
  unfold smallB greatB
  rw [hc]
  decide

theorem great_small (c : Int) (h : greatB c = true) : smallB c = false := by
  unfold greatB at h
  unfold smallB
  simp at h ⊢
  omega

/-- A NAME's KIND AS THE DOCUMENT TELLS IT. -/
theorem kind_doc (s : ByteArray) (h0 : 0 < s.size) (sm1 : Bool) (h1 : ∀ h : 1 < s.size, sm1 = smallB s[1].toNat) (h2 : s.size ≤ 1 → sm1 = false) :
    kindL s.data.toList = kindDoc (markB s.data.toList) (allB signB s.data.toList) (allB restB s.data.toList) (greatB s[0].toNat) (decide ((s[0].toNat : Int) = 39)) sm1 (smallB s[0].toNat) (keywordB s.data.toList) := by
  have a1 : allB signB s.data.toList = true → signB s[0].toNat = true := allB_head signB s h0
  have a2 := quote_facts s[0]
  have a3 := great_small s[0].toNat
  by_cases h : 1 < s.size
  · rw [kindL_two s h, h1 h]
    exact kindOf_doc a1 a2 a3 (fun _ _ _ _ => trivial)
  · rw [kindL_one s h0 (by omega), h2 (by omega)]
    exact kindOf_doc a1 a2 a3 (fun _ _ _ _ => trivial)

theorem rKind_empty (w : World) : Calls Tryz.prog 10 #[.string ⟨#[]⟩] w fun e w' => e = .returned (.int .i64 0) ∧ Below w.heap.size w w' := by
  go_enter Tryz.func10, Tryz.ntmps10
  go_wp2
  go_ret
  exact ⟨rfl, Below.refl _ _⟩

set_option maxHeartbeats 2000000 in
theorem rKind_some (s : ByteArray) (w : World) (h0 : 0 < s.size) (hs : s.size ≤ 140737488351232) : Calls Tryz.prog 10 #[.string s] w fun e w' => e = .returned (.int .i64 (kindL s.data.toList)) ∧ Below w.heap.size w w' := by
  have hne : (s.toList == []) = false := by
    rw [Lib.toList_data, beq_eq_false_iff_ne]
    exact data_some s h0
  go_enter Tryz.func10, Tryz.ntmps10
  go_wp2_with fail
  refine (rMarks_any w).mono ?_
  rintro e w1 ⟨v, rfl, hv, hb1⟩
  have HB1 := Lib.hid hb1
  have HV := Lib.hid hv
  clear hb1 hv
  dsimp only
  go_wp2_with fail
  refine (in_to (markB s.data.toList) docMarks v s w1 HV.out (by decide) (mark_doc _)).mono ?_
  rintro e w2 ⟨rfl, rfl⟩
  cases hmk : markB s.data.toList with
  | true =>
    have HM := Lib.hid hmk
    clear hmk
    dsimp only
    go_wp2
    go_ret
    have hk : kindL s.data.toList = 11 := by
      rw [kindL, if_pos HM.out, if_neg (data_some s h0)]
    exact ⟨ret_i64 hk.symm, HB1.out⟩
  | false =>
    have HM := Lib.hid hmk
    clear hmk
    dsimp only
    go_wp2
    go_loopg [3, 4, 5] s.size (fun g s3 s4 s5 wr => ∃ i : Nat, s3 = .bool (allB restB (s.data.toList.take i)) ∧ s4 = .bool (allB signB (s.data.toList.take i)) ∧ s5 = .int .i64 i ∧ i ≤ s.size ∧ s.size - i ≤ g ∧ wr = w1)
    case atStart => exact ⟨0, rfl, rfl, rfl, Nat.zero_le _, Nat.le_refl _, rfl⟩
    case round =>
      obtain ⟨i, rfl, rfl, rfl, hi, hg, rfl⟩ := hrel
      by_cases hlt : i < s.size
      · have r1 := allB_snoc restB s i hlt
        have r2 := allB_snoc signB s i hlt
        cases hb1 : allB restB (s.data.toList.take i) <;> cases hb2 : allB signB (s.data.toList.take i) <;> rw [hb1] at r1 <;> rw [hb2] at r2
        all_goals
          have R1 := Lib.hid r1
          have R2 := Lib.hid r2
          clear r1 r2 hb1 hb2
          go_wp2_with (first | (go_at_call 25; refine (rRest_any _ _).mono ?_; rintro e w' ⟨rfl, rfl⟩) | (go_at_call 26; refine (rSigns_any _ _).mono ?_; rintro e w' ⟨rfl, rfl⟩))
          go_roundg (s.size - (i + 1))
          case measure => omega
          case rel => exact ⟨i + 1, by rw [R1.out]; rfl, by rw [R2.out]; rfl, by go_num, by omega, Nat.le_refl _, rfl⟩
      · obtain rfl : i = s.size := by omega
        rw [List.take_of_length_le (by simp : s.data.toList.length ≤ s.size)]
        have hnl : ¬ (s.size : Int) < (s.size : Int) := by omega
        obtain ⟨A, hA⟩ : ∃ A, allB signB s.data.toList = A := ⟨_, rfl⟩
        obtain ⟨R, hR⟩ : ∃ R, allB restB s.data.toList = R := ⟨_, rfl⟩
        obtain ⟨K, hK⟩ : ∃ K, keywordB s.data.toList = K := ⟨_, rfl⟩
        rw [hA, hR]
        by_cases h1 : 1 < s.size
        · have KD := kind_doc s h0 (smallB s[1].toNat) (fun _ => rfl) (fun h => by omega)
          rw [HM.out, hA, hR, hK] at KD
          have KH := Lib.hid KD
          have KK := Lib.hid hK
          have h1z : (1 : Int) < (s.size : Int) := by omega
          clear KD hA hR hK
          cases A <;> cases R
          all_goals
            go_wp2_with (first | (go_at_call 27; refine (rGreat_any _ _).mono ?_; rintro e w' ⟨rfl, rfl⟩) | (go_at_call 28; refine (rSmall_any _ _).mono ?_; rintro e w' ⟨rfl, rfl⟩) | (go_at_call 29; refine (rKeywords_any _).mono ?_; rintro e w3 ⟨v3, rfl, hv3, hb3⟩) | (go_at_call 22; refine (in_to K kwTab _ s _ hv3 (by decide) KK.out).mono ?_; rintro e w4 ⟨rfl, rfl⟩))
            all_goals
              go_ret
              refine ⟨ret_i64 ?_, by first | exact Below.next HB1.out (Nat.le_refl _) hb3 | exact HB1.out⟩
              rw [KH.out]
              simp_all [kindDoc]
        · have KD := kind_doc s h0 false (fun h => absurd h h1) (fun _ => rfl)
          rw [HM.out, hA, hR, hK] at KD
          have KH := Lib.hid KD
          have KK := Lib.hid hK
          have h1z : ¬ (1 : Int) < (s.size : Int) := by omega
          clear KD hA hR hK
          cases A <;> cases R
          all_goals
            go_wp2_with (first | (go_at_call 27; refine (rGreat_any _ _).mono ?_; rintro e w' ⟨rfl, rfl⟩) | (go_at_call 28; refine (rSmall_any _ _).mono ?_; rintro e w' ⟨rfl, rfl⟩) | (go_at_call 29; refine (rKeywords_any _).mono ?_; rintro e w3 ⟨v3, rfl, hv3, hb3⟩) | (go_at_call 22; refine (in_to K kwTab _ s _ hv3 (by decide) KK.out).mono ?_; rintro e w4 ⟨rfl, rfl⟩))
            all_goals
              go_ret
              refine ⟨ret_i64 ?_, by first | exact Below.next HB1.out (Nat.le_refl _) hb3 | exact HB1.out⟩
              rw [KH.out]
              simp_all [kindDoc]

theorem rKind_any (s : ByteArray) (w : World) (hs : s.size ≤ 140737488351232) : Calls Tryz.prog 10 #[.string s] w fun e w' => e = .returned (.int .i64 (kindL s.data.toList)) ∧ Below w.heap.size w w' := by
  by_cases h0 : s.size = 0
  · obtain rfl : s = ⟨#[]⟩ := by
      cases s with
      | mk a => exact congrArg ByteArray.mk (Array.eq_empty_of_size_eq_zero h0)
    exact rKind_empty w
  · exact rKind_some s w (by omega) hs
end Go.Proofs.YtbbibngagdpdcaaGreatDoor
