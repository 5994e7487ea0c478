/-
  PROVED HERE: a part of the proof of the card 'SpellTellsCardSaid': what functions of the program, or of the document's packages, that SpellTells reaches compute (texts G7). CONDITIONS: each theorem's own.
-/
import Derived.Test.YtbbibngagdpdcaaGreatDoorM19
namespace Go.Proofs.YtbbibngagdpdcaaGreatDoor
open Go Go.RowKit
open Go.Shelf

theorem ext_small (s : ByteArray) (a b : Nat) (hs : s.size ≤ 140737488351232) : (s.extract a b).size ≤ 140737488351232 := by
  have h := congrArg List.length (Lib.extract_data s a b)
  simp only [Array.length_toList, List.length_take, List.length_drop] at h
  have h2 : (s.extract a b).data.size = (s.extract a b).size := rfl
  have h3 : s.data.size = s.size := rfl
  omega

/-- THE BYTES FROM k0 TO e ARE DIGITS. -/
def wholeB (s : ByteArray) (k0 e : Nat) : Bool := allB digitB ((s.data.toList.drop k0).take (e - k0))

theorem whole_snoc (s : ByteArray) (k0 e : Nat) (h0 : k0 ≤ e) (h : e < s.size) : wholeB s k0 (e + 1) = (wholeB s k0 e && digitB s[e].toNat) := by
  have hl : e - k0 < (s.data.toList.drop k0).length := by simp; omega
  unfold wholeB allB
  rw [show e + 1 - k0 = (e - k0) + 1 by omega, List.take_succ_eq_append_getElem hl, List.all_append]
  have hg : (s.data.toList.drop k0)[e - k0] = s[e] := by
    rw [List.getElem_drop]
    have : k0 + (e - k0) = e := by omega
    simp only [this]
    rfl
  rw [hg]
  simp

theorem whole_one (s : ByteArray) (k0 : Nat) (h : k0 < s.size) : wholeB s k0 (k0 + 1) = digitB s[k0].toNat := by
  rw [whole_snoc s k0 k0 (Nat.le_refl _) h]
  unfold wholeB
  rw [Nat.sub_self]
  rfl

set_option maxHeartbeats 4000000 in
set_option maxRecDepth 100000 in
theorem rNext_rest (s : ByteArray) (k0 E : Nat) (n K : Int) (w : World) (hs : s.size ≤ 140737488351232) (hk0 : k0 < s.size) (hb : blankB s[k0].toNat = false) (t1 : ((s[k0].toNat : Int) == 40) = false) (t2 : ((s[k0].toNat : Int) == 34) = false)
    (hq : restB s[k0].toNat = true) (hE : k0 + runL restB (s.data.toList.drop k0) = E) (hn : kindL (s.extract k0 E).data.toList = n) (hK : K = if wholeB s k0 E then 4 else badOr n) :
    Calls Tryz.prog 60 #[.string s, .int .i64 k0] w fun e w' => e = .returned (.agg #[.int .i64 K, .int .i64 k0, .int .i64 (E : Nat)]) ∧ Below w.heap.size w w' := by
  have HR : Hid (k0 + 1 + runL restB (s.data.toList.drop (k0 + 1)) = E) := by
    rw [Hid, ← hE, run_at restB s k0 hk0, if_pos hq]; omega
  have HB := Lib.hid hb
  have HQ := Lib.hid hq
  have HN := Lib.hid hn
  have HK' := Lib.hid hK
  have HI := Lib.hid (NextInv.start w k0)
  have HW := Lib.hid (whole_one s k0 hk0)
  clear hb hq hn hK hE
  have hkz : (k0 : Int) < (s.size : Int) := by omega
  go_enter Tryz.func60, Tryz.ntmps60
  go_wp2_with fail
  refine (rBlank_any _ _).mono ?_
  rintro e w' ⟨rfl, rfl⟩
  rw [HB.out]
  obtain ⟨wa, hwa⟩ : ∃ wa, wa = ((w.alloc (.cells #[.int .i64 0, .int .i64 0, .int .i64 0] 51)).alloc (.cells #[.int .i64 3, .int .i64 (k0 : Nat), .int .i64 ((k0 : Int) + 1)] 51)) := ⟨_, rfl⟩
  rw [← hwa] at HI ⊢
  clear hwa
  dsimp only
  go_wp2_with fail
  refine (rRest_any _ _).mono ?_
  rintro e w' ⟨rfl, rfl⟩
  rw [HQ.out]
  dsimp only
  go_wp2_with (go_at_call 74; refine (rDigit_any _ _).mono ?_; rintro e w' ⟨rfl, rfl⟩)
  go_loopg [9, 98] s.size (fun g s9 _ wr => ∃ e : Nat, k0 + 1 ≤ e ∧ e ≤ s.size ∧ s.size - e ≤ g ∧ s9 = .bool (wholeB s k0 e) ∧ Hid (NextInv w wr 3 k0 e) ∧ Hid (e + runL restB (s.data.toList.drop e) = E))
  case atStart => exact ⟨k0 + 1, Nat.le_refl _, by omega, by omega, by rw [HW.out], HI, HR⟩
  case round =>
    obtain ⟨e, hke, he, hg, rfl, hI, hR⟩ := hrel
    clear HI HR
    obtain ⟨c0, c1, c2⟩ := hI.out.cells
    have f0 := hI.out.soft 0
    have f2 := hI.out.soft 2
    by_cases hlt : e < s.size
    · have hez : (e : Int) < (s.size : Int) := by omega
      have hws := whole_snoc s k0 e (by omega) hlt
      cases hp : restB s[e].toNat with
      | true =>
        have HP := Lib.hid hp
        have hR2 : Hid (e + 1 + runL restB (s.data.toList.drop (e + 1)) = E) := by
          have := hR.out
          rw [run_at restB s e hlt, hp, if_pos rfl] at this
          show _ = _
          omega
        clear hp hR
        cases hW : wholeB s k0 e <;> rw [hW] at hws
        all_goals
          have HWS := Lib.hid hws
          clear hws hW
          go_wp2_with fail
          refine (rRest_any _ _).mono ?_
          rintro e' w' ⟨rfl, rfl⟩
          rw [HP.out]
          dsimp only
          go_wp2_with (go_at_call 74; refine (rDigit_any _ _).mono ?_; rintro e w' ⟨rfl, rfl⟩)
          go_roundg (s.size - (e + 1))
          case measure => omega
          case rel => exact ⟨e + 1, by omega, by omega, Nat.le_refl _, by rw [HWS.out]; rfl, hI.out.ended (e + 1), hR2⟩
      | false =>
        have HP := Lib.hid hp
        have hR2 : Hid (E = e) := by
          have := hR.out
          rw [run_at restB s e hlt, hp] at this
          show _ = _
          simp at this
          omega
        clear hp hR hws
        obtain ⟨W, hW⟩ : ∃ W, wholeB s k0 e = W := ⟨_, rfl⟩
        rw [hW]
        have hK := HK'.out
        rw [hR2.out, hW] at hK
        clear hW
        go_wp2_with fail
        refine (rRest_any _ _).mono ?_
        rintro e' w' ⟨rfl, rfl⟩
        rw [HP.out]
        dsimp only
        cases W with
        | true =>
          have hK4 : Hid (K = 4) := by rw [Hid, hK]; rfl
          have HI4 := Lib.hid (hI.out.kinded 4)
          clear hK
          go_wp2_with (first | (refine wpList_store_tok HI4.out rfl (.tmp 4) (.tmp 124) rfl rfl rfl ?_))
          rw [hK4.out, hR2.out]
          exact bodyPost_ret (next_done HI4.out _ rfl) rfl ⟨rfl, (HI4.out.stored _).2⟩
        | false =>
          have HK : Hid (K = badOr n) := by rw [Hid, hK]; rfl
          clear hK
          have hks : (k0 : Int) ≤ (e : Int) := by omega
          have hes : (e : Int) ≤ (s.size : Int) := by omega
          have HN2 : Hid (kindL (s.extract k0 e).data.toList = n) := by rw [← hR2.out]; exact HN.out
          go_wp2_with fail
          refine (rKind_any _ _ (ext_small s k0 e hs)).mono ?_
          rintro e9 w9 ⟨rfl, hb9⟩
          rw [HN2.out]
          have HI9 := Lib.hid (hI.out.later hb9)
          clear hb9 c0 c1 c2 HN2
          obtain ⟨c0, c1, c2⟩ := HI9.out.cells
          have f0 := HI9.out.soft 0
          dsimp only
          by_cases hn0 : n = 0
          · have hz : (n != 0) = false := by rw [hn0]; rfl
            have hK3 : Hid (K = 3) := by rw [Hid, HK.out, hn0]; rfl
            clear hn0
            go_wp2_with (first | (refine wpList_store_tok HI9.out rfl (.tmp 4) (.tmp 153) rfl rfl rfl ?_))
            rw [hK3.out, hR2.out]
            exact bodyPost_ret (next_done HI9.out _ rfl) rfl ⟨rfl, (HI9.out.stored _).2⟩
          · have hz : (n != 0) = true := by rw [bne_iff_ne]; exact hn0
            have hKn : Hid (K = n) := by rw [Hid, HK.out, badOr, if_neg (by simpa using hn0)]
            have HI10 := Lib.hid (HI9.out.kinded n)
            clear hn0
            go_wp2_with (first | (refine wpList_store_tok HI10.out rfl (.tmp 4) (.tmp 153) rfl rfl rfl ?_))
            rw [hKn.out, hR2.out]
            exact bodyPost_ret (next_done HI10.out _ rfl) rfl ⟨rfl, (HI10.out.stored _).2⟩
    · obtain rfl : e = s.size := by omega
      have hR2 : Hid (E = s.size) := by
        have := hR.out
        rw [run_end restB s s.size (Nat.le_refl _)] at this
        show _ = _
        omega
      have hez : ¬ (s.size : Int) < (s.size : Int) := by omega
      clear hR
      obtain ⟨W, hW⟩ : ∃ W, wholeB s k0 s.size = W := ⟨_, rfl⟩
      rw [hW]
      have hK := HK'.out
      rw [hR2.out, hW] at hK
      clear hW
      cases W with
      | true =>
        have hK4 : Hid (K = 4) := by rw [Hid, hK]; rfl
        have HI4 := Lib.hid (hI.out.kinded 4)
        clear hK
        go_wp2_with (first | (refine wpList_store_tok HI4.out rfl (.tmp 4) (.tmp 124) rfl rfl rfl ?_))
        rw [hK4.out, hR2.out]
        exact bodyPost_ret (next_done HI4.out _ rfl) rfl ⟨rfl, (HI4.out.stored _).2⟩
      | false =>
        have HK : Hid (K = badOr n) := by rw [Hid, hK]; rfl
        clear hK
        have hks : (k0 : Int) ≤ (s.size : Int) := by omega
        have hes : (s.size : Int) ≤ (s.size : Int) := by omega
        have HN2 : Hid (kindL (s.extract k0 s.size).data.toList = n) := by rw [← hR2.out]; exact HN.out
        go_wp2_with fail
        refine (rKind_any _ _ (ext_small s k0 s.size hs)).mono ?_
        rintro e9 w9 ⟨rfl, hb9⟩
        rw [HN2.out]
        have HI9 := Lib.hid (hI.out.later hb9)
        clear hb9 c0 c1 c2 HN2
        obtain ⟨c0, c1, c2⟩ := HI9.out.cells
        have f0 := HI9.out.soft 0
        dsimp only
        by_cases hn0 : n = 0
        · have hz : (n != 0) = false := by rw [hn0]; rfl
          have hK3 : Hid (K = 3) := by rw [Hid, HK.out, hn0]; rfl
          clear hn0
          go_wp2_with (first | (refine wpList_store_tok HI9.out rfl (.tmp 4) (.tmp 153) rfl rfl rfl ?_))
          rw [hK3.out, hR2.out]
          exact bodyPost_ret (next_done HI9.out _ rfl) rfl ⟨rfl, (HI9.out.stored _).2⟩
        · have hz : (n != 0) = true := by rw [bne_iff_ne]; exact hn0
          have hKn : Hid (K = n) := by rw [Hid, HK.out, badOr, if_neg (by simpa using hn0)]
          have HI10 := Lib.hid (HI9.out.kinded n)
          clear hn0
          go_wp2_with (first | (refine wpList_store_tok HI10.out rfl (.tmp 4) (.tmp 153) rfl rfl rfl ?_))
          rw [hKn.out, hR2.out]
          exact bodyPost_ret (next_done HI10.out _ rfl) rfl ⟨rfl, (HI10.out.stored _).2⟩
end Go.Proofs.YtbbibngagdpdcaaGreatDoor
