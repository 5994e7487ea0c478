/-
  PROVED HERE: a part of the proof of the card 'SpellTellsCardSaid': what functions of the program, or of the document's packages, that SpellTells reaches compute (texts I1, I2). CONDITIONS: each theorem's own.
-/
import Derived.Test.YtbbibngagdpdcaaGreatDoorM27
namespace Go.Proofs.YtbbibngagdpdcaaGreatDoor
open Go Go.RowKit
open Go.Shelf
open Go.ChangeMaps Go.MapKept

set_option maxHeartbeats 4000000 in
set_option maxRecDepth 100000 in
/-- THE LAW, few files and a short text. -/
theorem tells_tail (fs : List Fil) (v : Value) (s : ByteArray) (w : World) (ht : TabOk w) (hv : FilesAt w v fs) (hbig : fs.length ≤ 9223372036854775807)
    (hs : ∀ f ∈ fs, f.1.size ≤ 9223372036854775807 ∧ f.2.size ≤ 9223372036854775807) (hs1 : s.size ≤ 100) (hfew : fewB fs = true) :
    Calls Tryz.prog 3 #[v, .string s] w fun e w' => e = .returned (.bool true) ∧ Below w.heap.size w w' := by
  have hF := few_of fs hfew
  have hfc := few_any fs _ w hv hbig hs
  rw [hfew] at hfc
  have hpl := places_few s.data.toList fs hF
  have htl : (takenL fs).length ≤ 20000000 := by have := spell_len fs hF; rw [taken_len]; omega
  have HFC := Lib.hid hfc
  have HF := Lib.hid hF
  have HT := Lib.hid ht
  have HV := Lib.hid hv
  have HPL := Lib.hid hpl
  have HTL := Lib.hid htl
  obtain ⟨a, c, rfl, hv'⟩ := id hv
  clear hv hv' ht hs hfc hfew hF hpl htl
  go_enter Tryz.func3, Tryz.ntmps3
  go_wp2_with fail
  refine HFC.out.mono ?_
  rintro e w1 ⟨rfl, hb1⟩
  have HB1 := Lib.hid hb1
  clear hb1 HFC
  dsimp only
  have hs2 : ¬ (100 : Int) < (s.size : Int) := by omega
  go_wp2_with fail
  refine (fresh_any fs _ s w1 (HT.out.later HB1.out) HF.out (HV.out.later HB1.out) (by omega)).mono ?_
  rintro e w2 ⟨r, b, hFI, rfl, hb2⟩
  have HB2 := Lib.hid (Below.next HB1.out (Nat.le_refl _) hb2)
  have HFI := Lib.hid hFI
  clear hb2 HB1 hFI
  dsimp only [strV]
  go_wp2_with fail
  refine (rfresh_any fs _ s w2 HF.out (HV.out.later HB2.out) (by omega)).mono ?_
  rintro e w3 ⟨r', b', hFI', rfl, hb3⟩
  obtain ⟨hrr, hbb⟩ := freshIs_eq HFI.out hFI'
  subst hrr hbb
  have HB3 := Lib.hid (Below.next HB2.out (Nat.le_refl _) hb3)
  clear hb3 HB2 hFI' HFI
  obtain ⟨rs, hrs⟩ : ∃ rs : ByteArray, (⟨r.toArray⟩ : ByteArray) = rs := ⟨_, rfl⟩
  dsimp only [strV]
  rw [hrs]
  clear hrs
  go_wp2_with fail
  refine (places_any fs _ s w3 HF.out (HV.out.later HB3.out) (by omega)).mono ?_
  rintro e w4 ⟨v4, rfl, hown4, hb4⟩
  obtain ⟨P, hP⟩ : ∃ P, getP (spellL fs) s.data.toList = P := ⟨_, rfl⟩
  have hpz : P.length ≤ 20000000 := by rw [← hP]; exact HPL.out
  rw [hP] at hown4
  obtain ⟨a4, c4, rfl⟩ := own_slice hown4
  have HP := Lib.hid hP
  have HO4 := Lib.hid hown4
  have HB4 := Lib.hid (Below.next HB3.out (Nat.le_refl _) hb4)
  clear hb4 hown4 hP HB3 HPL
  dsimp only
  go_wp2_with fail
  refine (rPlaces_any fs _ s w4 HF.out (HV.out.later HB4.out)).mono ?_
  rintro e w5 ⟨v5, rfl, hown5, hb5⟩
  rw [HP.out] at hown5
  obtain ⟨a5, c5, rfl⟩ := own_slice hown5
  have HO5 := Lib.hid hown5
  have HX5 := Lib.hid (own_later HO4.out hb5)
  have HB5 := Lib.hid (Below.next HB4.out (Nat.le_refl _) hb5)
  clear hb5 hown5 HB4 HO4
  dsimp only
  go_wp2
  go_loopg [48] P.length (fun g s48 wr => ∃ i q : Nat, s48 = .int .i64 i ∧ i ≤ P.length ∧ P.length - i ≤ g ∧ wr = w5.drewN q)
  case atStart => exact ⟨0, 0, rfl, Nat.zero_le _, Nat.le_refl _, rfl⟩
  case round =>
    obtain ⟨i, q, rfl, hi, hg, rfl⟩ := hrel
    by_cases hlt : i < P.length
    · obtain ⟨g4, h4, hg4, c40, c41⟩ := plc_cells HX5.out rfl i hlt
      obtain ⟨g5, h5, hg5, c50, c51⟩ := plc_cells HO5.out rfl i hlt
      subst h4 h5
      obtain ⟨p, hp⟩ : ∃ p, P[i] = p := ⟨_, rfl⟩
      rw [hp] at c40 c41 c50 c51
      clear hp
      have hlz : (i : Int) < (P.length : Int) := by omega
      go_wp2
      go_quiet (fail)
      go_wp2
      go_roundg (P.length - (i + 1))
      case measure => omega
      case rel => exact ⟨i + 1, _, by go_num, by omega, Nat.le_refl _, rfl⟩
    · obtain rfl : i = P.length := by omega
      have HB6 := Lib.hid (Below.next HB5.out (Nat.le_refl _) (below_draw0 w5 q))
      clear HB5 HX5 HO5
      go_wp2_with fail
      refine (rKind_any s _ (by omega)).mono ?_
      rintro e w7 ⟨rfl, hb7⟩
      have HB7 := Lib.hid (Below.next HB6.out (Nat.le_refl _) hb7)
      clear hb7 HB6
      obtain ⟨E, hE⟩ : ∃ E, freeL fs s.data.toList = E := ⟨_, rfl⟩
      have HE := Lib.hid hE
      obtain ⟨K, hK⟩ : ∃ K, kindL s.data.toList = K := ⟨_, rfl⟩
      have hc : ((K = 6 ∨ K = 7 ∨ K = 9) ∧ ((P.length : Int) == 0) = E) ∨ (((K == 6) = false ∧ (K == 7) = false ∧ (K == 9) = false) ∧ E = false) := by
        by_cases h : K = 6 ∨ K = 7 ∨ K = 9
        · refine .inl ⟨h, ?_⟩
          rw [← hE, ← HP.out]
          refine (free_named ?_).symm
          rw [hK]
          rcases h with rfl | rfl | rfl <;> decide
        · refine .inr ⟨⟨?_, ?_, ?_⟩, ?_⟩
          · rw [beq_eq_false_iff_ne]; exact fun e => h (.inl e)
          · rw [beq_eq_false_iff_ne]; exact fun e => h (.inr (.inl e))
          · rw [beq_eq_false_iff_ne]; exact fun e => h (.inr (.inr e))
          · rw [← hE]
            refine free_not ?_
            rw [hK]
            unfold namedB
            simp only [not_or] at h
            simp [h.1, h.2.1, h.2.2]
      rw [hK]
      clear hE hK
      obtain ⟨zs, hzs⟩ : ∃ zs, takenL fs = zs := ⟨_, rfl⟩
      have hzl : zs.length ≤ 20000000 := by rw [← hzs]; exact HTL.out
      have HZ := Lib.hid hzs
      clear hzs
      dsimp only
      rcases hc with ⟨rfl | rfl | rfl, hE0⟩ | ⟨⟨k6, k7, k9⟩, rfl⟩
      all_goals
        go_wp2_with fail
        refine (taken_any fs _ w7 HF.out (HV.out.later HB7.out)).mono ?_
        rintro e w8 ⟨v8, rfl, hown8, hb8⟩
        rw [HZ.out] at hown8
        have hS8 := strs_own hown8 rfl
        obtain ⟨a8, c8, rfl, _⟩ := id hS8
        have HS8 := Lib.hid hS8
        have HB8 := Lib.hid (Below.next HB7.out (Nat.le_refl _) hb8)
        clear hown8 hS8 hb8
        dsimp only
        go_wp2_with fail
        refine (rTaken_any fs _ w8 HF.out (HV.out.later HB8.out)).mono ?_
        rintro e w9 ⟨v9, rfl, hown9, hb9⟩
        rw [HZ.out] at hown9
        have hS9 := strs_own hown9 rfl
        obtain ⟨a9, c9, rfl, _⟩ := id hS9
        have HS9 := Lib.hid hS9
        have HX9 := Lib.hid (HS8.out.later hb9)
        have HB9 := Lib.hid (Below.next HB8.out (Nat.le_refl _) hb9)
        clear hown9 hS9 hb9 HS8 HB8
        dsimp only
        go_wp2_with fail
        refine (texts_any zs zs _ _ w9 HX9.out HS9.out (by omega) (by omega)).mono ?_
        rintro e w10 ⟨rfl, hb10⟩
        rw [decide_eq_true rfl]
        have HB10 := Lib.hid (Below.next HB9.out (Nat.le_refl _) hb10)
        clear hb10 HX9 HS9 HB9
        dsimp only
        go_wp2_with fail
        refine (free_any fs _ s w10 HF.out (HV.out.later HB10.out) (by omega)).mono ?_
        rintro e w11 ⟨rfl, hb11⟩
        rw [HE.out]
        have HB11 := Lib.hid (Below.next HB10.out (Nat.le_refl _) hb11)
        clear hb11 HB10
        dsimp only
        go_wp2_with fail
        refine (alive_any w11 (HT.out.later HB11.out)).mono ?_
        rintro e w12 ⟨rfl, hb12⟩
        go_wp2
        go_ret
        exact ⟨rfl, Below.next HB11.out (Nat.le_refl _) hb12⟩
end Go.Proofs.YtbbibngagdpdcaaGreatDoor

namespace Go.Proofs.YtbbibngagdpdcaaGreatDoor
open Go Go.RowKit
open Go.Shelf

set_option maxHeartbeats 1000000 in
theorem tells_many (fs : List Fil) (v : Value) (s : ByteArray) (w : World) (ht : TabOk w) (hv : FilesAt w v fs) (hbig : fs.length ≤ 9223372036854775807)
    (hs : ∀ f ∈ fs, f.1.size ≤ 9223372036854775807 ∧ f.2.size ≤ 9223372036854775807) (hfew : fewB fs = false) :
    Calls Tryz.prog 3 #[v, .string s] w fun e w' => e = .returned (.bool true) ∧ Below w.heap.size w w' := by
  have hfc := few_any fs _ w hv hbig hs
  rw [hfew] at hfc
  have HFC := Lib.hid hfc
  have HT := Lib.hid ht
  obtain ⟨a, c, rfl, _⟩ := id hv
  clear hv ht hs hfc hfew
  go_enter Tryz.func3, Tryz.ntmps3
  go_wp2_with fail
  refine HFC.out.mono ?_
  rintro e w1 ⟨rfl, hb1⟩
  have HB1 := Lib.hid hb1
  clear hb1 HFC
  dsimp only
  go_wp2_with fail
  refine (alive_any w1 (HT.out.later HB1.out)).mono ?_
  rintro e w2 ⟨rfl, hb2⟩
  go_wp2
  go_ret
  exact ⟨rfl, Below.next HB1.out (Nat.le_refl _) hb2⟩

set_option maxHeartbeats 1000000 in
theorem tells_long (fs : List Fil) (v : Value) (s : ByteArray) (w : World) (ht : TabOk w) (hv : FilesAt w v fs) (hbig : fs.length ≤ 9223372036854775807)
    (hs : ∀ f ∈ fs, f.1.size ≤ 9223372036854775807 ∧ f.2.size ≤ 9223372036854775807) (hfew : fewB fs = true) (hs1 : 100 < s.size) (hs3 : s.size ≤ 9223372036854775807) :
    Calls Tryz.prog 3 #[v, .string s] w fun e w' => e = .returned (.bool true) ∧ Below w.heap.size w w' := by
  have hfc := few_any fs _ w hv hbig hs
  rw [hfew] at hfc
  have HFC := Lib.hid hfc
  have HT := Lib.hid ht
  obtain ⟨a, c, rfl, _⟩ := id hv
  clear hv ht hs hfc hfew
  go_enter Tryz.func3, Tryz.ntmps3
  go_wp2_with fail
  refine HFC.out.mono ?_
  rintro e w1 ⟨rfl, hb1⟩
  have HB1 := Lib.hid hb1
  clear hb1 HFC
  dsimp only
  have hs2 : (100 : Int) < (s.size : Int) := by omega
  go_wp2_with fail
  refine (alive_any w1 (HT.out.later HB1.out)).mono ?_
  rintro e w2 ⟨rfl, hb2⟩
  go_wp2
  go_ret
  exact ⟨rfl, Below.next HB1.out (Nat.le_refl _) hb2⟩

theorem tells_all (fs : List Fil) (v : Value) (s : ByteArray) (w : World) (ht : TabOk w) (hv : FilesAt w v fs) (hbig : fs.length ≤ 9223372036854775807)
    (hs : ∀ f ∈ fs, f.1.size ≤ 9223372036854775807 ∧ f.2.size ≤ 9223372036854775807) (hs3 : s.size ≤ 9223372036854775807) :
    Calls Tryz.prog 3 #[v, .string s] w fun e w' => e = .returned (.bool true) ∧ Below w.heap.size w w' := by
  cases hfew : fewB fs with
  | false => exact tells_many fs v s w ht hv hbig hs hfew
  | true =>
    by_cases hs1 : s.size ≤ 100
    · exact tells_tail fs v s w ht hv hbig hs hs1 hfew
    · exact tells_long fs v s w ht hv hbig hs hfew (by omega) hs3
end Go.Proofs.YtbbibngagdpdcaaGreatDoor
