/-
  PROVED HERE: a part of the proof of the card 'SpellTellsCardSaid': what functions of the program, or of the document's packages, that SpellTells reaches compute (texts G8). CONDITIONS: each theorem's own.
-/
import Derived.Test.YtbbibngagdpdcaaGreatDoorM20
namespace Go.Proofs.YtbbibngagdpdcaaGreatDoor
open Go Go.RowKit
open Go.Shelf

set_option maxHeartbeats 4000000 in
set_option maxRecDepth 100000 in
theorem rNext_sign (s : ByteArray) (k0 E : Nat) (n K : Int) (w : World) (hs : s.size ≤ 140737488351232) (hk0 : k0 < s.size) (hb : blankB s[k0].toNat = false) (t1 : ((s[k0].toNat : Int) == 40) = false) (t2 : ((s[k0].toNat : Int) == 34) = false)
    (hq : restB s[k0].toNat = false) (hg : signB s[k0].toNat = true) (hE : k0 + runL signB (s.data.toList.drop k0) = E) (hn : kindL (s.extract k0 E).data.toList = n) (hK : K = badOr n) :
    Calls Tryz.prog 60 #[.string s, .int .i64 k0] w fun e w' => e = .returned (.agg #[.int .i64 K, .int .i64 k0, .int .i64 (E : Nat)]) ∧ Below w.heap.size w w' := by
  have HR : Hid (k0 + 1 + runL signB (s.data.toList.drop (k0 + 1)) = E) := by
    rw [Hid, ← hE, run_at signB s k0 hk0, if_pos hg]; omega
  have HB := Lib.hid hb
  have HQ := Lib.hid hq
  have HG := Lib.hid hg
  have HN := Lib.hid hn
  have HK := Lib.hid hK
  have HI := Lib.hid (NextInv.start w k0)
  clear hb hq hn hK hE hg
  have hkz : (k0 : Int) < (s.size : Int) := by omega
  go_enter Tryz.func60, Tryz.ntmps60
  go_wp2_with fail
  refine (rBlank_any _ _).mono ?_
  rintro e w' ⟨rfl, rfl⟩
  rw [HB.out]
  obtain ⟨wa, hwa⟩ : ∃ wa, wa = ((w.alloc (.cells #[.int .i64 0, .int .i64 0, .int .i64 0] 51)).alloc (.cells #[.int .i64 3, .int .i64 (k0 : Nat), .int .i64 ((k0 : Int) + 1)] 51)) := ⟨_, rfl⟩
  rw [← hwa] at HI ⊢
  clear hwa
  dsimp only
  go_wp2_with fail
  refine (rRest_any _ _).mono ?_
  rintro e w' ⟨rfl, rfl⟩
  rw [HQ.out]
  dsimp only
  go_wp2_with fail
  refine (rSigns_any _ _).mono ?_
  rintro e w' ⟨rfl, rfl⟩
  rw [HG.out]
  dsimp only
  go_wp2
  go_loopg [128] s.size (fun g _ wr => ∃ e : Nat, k0 + 1 ≤ e ∧ e ≤ s.size ∧ s.size - e ≤ g ∧ Hid (NextInv w wr 3 k0 e) ∧ Hid (e + runL signB (s.data.toList.drop e) = E))
  case atStart => exact ⟨k0 + 1, Nat.le_refl _, by omega, by omega, HI, HR⟩
  case round =>
    obtain ⟨e, hke, he, hg, hI, hR⟩ := hrel
    clear HI HR
    obtain ⟨c0, c1, c2⟩ := hI.out.cells
    have f0 := hI.out.soft 0
    have f2 := hI.out.soft 2
    by_cases hlt : e < s.size
    · have hez : (e : Int) < (s.size : Int) := by omega
      cases hp : signB s[e].toNat with
      | true =>
        have HP := Lib.hid hp
        have hR2 : Hid (e + 1 + runL signB (s.data.toList.drop (e + 1)) = E) := by
          have := hR.out
          rw [run_at signB s e hlt, hp, if_pos rfl] at this
          show _ = _
          omega
        clear hp hR
        go_wp2_with fail
        refine (rSigns_any _ _).mono ?_
        rintro e' w' ⟨rfl, rfl⟩
        rw [HP.out]
        dsimp only
        go_wp2
        go_roundg (s.size - (e + 1))
        case measure => omega
        case rel => exact ⟨e + 1, by omega, by omega, Nat.le_refl _, hI.out.ended (e + 1), hR2⟩
      | false =>
        have HP := Lib.hid hp
        have hR2 : Hid (E = e) := by
          have := hR.out
          rw [run_at signB s e hlt, hp] at this
          show _ = _
          simp at this
          omega
        clear hp hR
        go_wp2_with fail
        refine (rSigns_any _ _).mono ?_
        rintro e' w' ⟨rfl, rfl⟩
        rw [HP.out]
        dsimp only
        have hks : (k0 : Int) ≤ (e : Int) := by omega
        have hes : (e : Int) ≤ (s.size : Int) := by omega
        have HN2 : Hid (kindL (s.extract k0 e).data.toList = n) := by rw [← hR2.out]; exact HN.out
        go_wp2_with fail
        refine (rKind_any _ _ (ext_small s k0 e hs)).mono ?_
        rintro e9 w9 ⟨rfl, hb9⟩
        rw [HN2.out]
        have HI9 := Lib.hid (hI.out.later hb9)
        clear hb9 c0 c1 c2 HN2
        obtain ⟨c0, c1, c2⟩ := HI9.out.cells
        have f0 := HI9.out.soft 0
        dsimp only
        by_cases hn0 : n = 0
        · have hz : (n != 0) = false := by rw [hn0]; rfl
          have hK3 : Hid (K = 3) := by rw [Hid, HK.out, hn0]; rfl
          clear hn0
          go_wp2_with (first | (refine wpList_store_tok HI9.out rfl (.tmp 4) (.tmp 153) rfl rfl rfl ?_))
          rw [hK3.out, hR2.out]
          exact bodyPost_ret (next_done HI9.out _ rfl) rfl ⟨rfl, (HI9.out.stored _).2⟩
        · have hz : (n != 0) = true := by rw [bne_iff_ne]; exact hn0
          have hKn : Hid (K = n) := by rw [Hid, HK.out, badOr, if_neg (by simpa using hn0)]
          have HI10 := Lib.hid (HI9.out.kinded n)
          clear hn0
          go_wp2_with (first | (refine wpList_store_tok HI10.out rfl (.tmp 4) (.tmp 153) rfl rfl rfl ?_))
          rw [hKn.out, hR2.out]
          exact bodyPost_ret (next_done HI10.out _ rfl) rfl ⟨rfl, (HI10.out.stored _).2⟩
    · obtain rfl : e = s.size := by omega
      have hR2 : Hid (E = s.size) := by
        have := hR.out
        rw [run_end signB s s.size (Nat.le_refl _)] at this
        show _ = _
        omega
      have hez : ¬ (s.size : Int) < (s.size : Int) := by omega
      clear hR
      have hks : (k0 : Int) ≤ (s.size : Int) := by omega
      have hes : (s.size : Int) ≤ (s.size : Int) := by omega
      have HN2 : Hid (kindL (s.extract k0 s.size).data.toList = n) := by rw [← hR2.out]; exact HN.out
      go_wp2_with fail
      refine (rKind_any _ _ (ext_small s k0 s.size hs)).mono ?_
      rintro e9 w9 ⟨rfl, hb9⟩
      rw [HN2.out]
      have HI9 := Lib.hid (hI.out.later hb9)
      clear hb9 c0 c1 c2 HN2
      obtain ⟨c0, c1, c2⟩ := HI9.out.cells
      have f0 := HI9.out.soft 0
      dsimp only
      by_cases hn0 : n = 0
      · have hz : (n != 0) = false := by rw [hn0]; rfl
        have hK3 : Hid (K = 3) := by rw [Hid, HK.out, hn0]; rfl
        clear hn0
        go_wp2_with (first | (refine wpList_store_tok HI9.out rfl (.tmp 4) (.tmp 153) rfl rfl rfl ?_))
        rw [hK3.out, hR2.out]
        exact bodyPost_ret (next_done HI9.out _ rfl) rfl ⟨rfl, (HI9.out.stored _).2⟩
      · have hz : (n != 0) = true := by rw [bne_iff_ne]; exact hn0
        have hKn : Hid (K = n) := by rw [Hid, HK.out, badOr, if_neg (by simpa using hn0)]
        have HI10 := Lib.hid (HI9.out.kinded n)
        clear hn0
        go_wp2_with (first | (refine wpList_store_tok HI10.out rfl (.tmp 4) (.tmp 153) rfl rfl rfl ?_))
        rw [hKn.out, hR2.out]
        exact bodyPost_ret (next_done HI10.out _ rfl) rfl ⟨rfl, (HI10.out.stored _).2⟩

set_option maxHeartbeats 4000000 in
set_option maxRecDepth 100000 in
theorem rNext_other (s : ByteArray) (k0 E : Nat) (n K : Int) (w : World) (hs : s.size ≤ 140737488351232) (hk0 : k0 < s.size) (hb : blankB s[k0].toNat = false) (hp : Lib.hasPrefix (s.data.toList.drop k0) [40, 42] = false) (t2 : ((s[k0].toNat : Int) == 34) = false)
    (hq : restB s[k0].toNat = false) (hg : signB s[k0].toNat = false) (hE : k0 + 1 = E) (hn : kindL (s.extract k0 E).data.toList = n) (hK : K = badOr n) :
    Calls Tryz.prog 60 #[.string s, .int .i64 k0] w fun e w' => e = .returned (.agg #[.int .i64 K, .int .i64 k0, .int .i64 (E : Nat)]) ∧ Below w.heap.size w w' := by
  have hR2 : Hid (E = k0 + 1) := hE.symm
  have HB := Lib.hid hb
  have HQ := Lib.hid hq
  have HG := Lib.hid hg
  have HN := Lib.hid hn
  have HK := Lib.hid hK
  have hI := Lib.hid (NextInv.start w k0)
  have hp2 : ∀ h : k0 + 1 < s.size, ((s[k0].toNat : Int) == 40) = true → ((s[k0 + 1].toNat : Int) == 42) = false := by
    intro h h40
    rw [pre_two s k0 h] at hp
    cases h42 : ((s[k0 + 1].toNat : Int) == 42) with
    | false => rfl
    | true =>
      exfalso
      have e40 : (40 : UInt8) == s[k0] := by rw [← byte_test]; exact h40
      have e42 : (42 : UInt8) == s[k0 + 1] := by rw [← byte_test]; exact h42
      rw [e40, e42] at hp
      cases hp
  have HP2 := Lib.hid hp2
  clear hb hq hn hK hE hg hp hp2
  have hkz : (k0 : Int) < (s.size : Int) := by omega
  go_enter Tryz.func60, Tryz.ntmps60
  go_wp2_with fail
  refine (rBlank_any _ _).mono ?_
  rintro e w' ⟨rfl, rfl⟩
  rw [HB.out]
  obtain ⟨wa, hwa⟩ : ∃ wa, wa = ((w.alloc (.cells #[.int .i64 0, .int .i64 0, .int .i64 0] 51)).alloc (.cells #[.int .i64 3, .int .i64 (k0 : Nat), .int .i64 ((k0 : Int) + 1)] 51)) := ⟨_, rfl⟩
  rw [← hwa] at hI ⊢
  clear hwa
  obtain ⟨c0, c1, c2⟩ := hI.out.cells
  have f0 := hI.out.soft 0
  have f2 := hI.out.soft 2
  dsimp only
  cases t1 : ((s[k0].toNat : Int) == 40)
  · go_wp2_with fail
    refine (rRest_any _ _).mono ?_
    rintro e w' ⟨rfl, rfl⟩
    rw [HQ.out]
    dsimp only
    go_wp2_with fail
    refine (rSigns_any _ _).mono ?_
    rintro e w' ⟨rfl, rfl⟩
    rw [HG.out]
    dsimp only
    have hks : (k0 : Int) ≤ ((k0 + 1) : Int) := by omega
    have hes : ((k0 + 1) : Int) ≤ (s.size : Int) := by omega
    have HN2 : Hid (kindL (s.extract k0 (k0 + 1)).data.toList = n) := by rw [← hR2.out]; exact HN.out
    go_wp2_with fail
    refine (rKind_any _ _ (ext_small s k0 (k0 + 1) hs)).mono ?_
    rintro e9 w9 ⟨rfl, hb9⟩
    rw [HN2.out]
    have HI9 := Lib.hid (hI.out.later hb9)
    clear hb9 c0 c1 c2 HN2
    obtain ⟨c0, c1, c2⟩ := HI9.out.cells
    have f0 := HI9.out.soft 0
    dsimp only
    by_cases hn0 : n = 0
    · have hz : (n != 0) = false := by rw [hn0]; rfl
      have hK3 : Hid (K = 3) := by rw [Hid, HK.out, hn0]; rfl
      clear hn0
      go_wp2_with (first | (refine wpList_store_tok HI9.out rfl (.tmp 4) (.tmp 153) rfl rfl rfl ?_))
      rw [hK3.out, hR2.out]
      exact bodyPost_ret (next_done HI9.out _ rfl) rfl ⟨rfl, (HI9.out.stored _).2⟩
    · have hz : (n != 0) = true := by rw [bne_iff_ne]; exact hn0
      have hKn : Hid (K = n) := by rw [Hid, HK.out, badOr, if_neg (by simpa using hn0)]
      have HI10 := Lib.hid (HI9.out.kinded n)
      clear hn0
      go_wp2_with (first | (refine wpList_store_tok HI10.out rfl (.tmp 4) (.tmp 153) rfl rfl rfl ?_))
      rw [hKn.out, hR2.out]
      exact bodyPost_ret (next_done HI10.out _ rfl) rfl ⟨rfl, (HI10.out.stored _).2⟩
  · by_cases h1 : k0 + 1 < s.size
    · have h1z : (k0 : Int) + 1 < (s.size : Int) := by omega
      have t3 : ((s[k0 + 1].toNat : Int) == 42) = false := HP2.out h1 t1
      go_wp2_with fail
      refine (rRest_any _ _).mono ?_
      rintro e w' ⟨rfl, rfl⟩
      rw [HQ.out]
      dsimp only
      go_wp2_with fail
      refine (rSigns_any _ _).mono ?_
      rintro e w' ⟨rfl, rfl⟩
      rw [HG.out]
      dsimp only
      have hks : (k0 : Int) ≤ ((k0 + 1) : Int) := by omega
      have hes : ((k0 + 1) : Int) ≤ (s.size : Int) := by omega
      have HN2 : Hid (kindL (s.extract k0 (k0 + 1)).data.toList = n) := by rw [← hR2.out]; exact HN.out
      go_wp2_with fail
      refine (rKind_any _ _ (ext_small s k0 (k0 + 1) hs)).mono ?_
      rintro e9 w9 ⟨rfl, hb9⟩
      rw [HN2.out]
      have HI9 := Lib.hid (hI.out.later hb9)
      clear hb9 c0 c1 c2 HN2
      obtain ⟨c0, c1, c2⟩ := HI9.out.cells
      have f0 := HI9.out.soft 0
      dsimp only
      by_cases hn0 : n = 0
      · have hz : (n != 0) = false := by rw [hn0]; rfl
        have hK3 : Hid (K = 3) := by rw [Hid, HK.out, hn0]; rfl
        clear hn0
        go_wp2_with (first | (refine wpList_store_tok HI9.out rfl (.tmp 4) (.tmp 153) rfl rfl rfl ?_))
        rw [hK3.out, hR2.out]
        exact bodyPost_ret (next_done HI9.out _ rfl) rfl ⟨rfl, (HI9.out.stored _).2⟩
      · have hz : (n != 0) = true := by rw [bne_iff_ne]; exact hn0
        have hKn : Hid (K = n) := by rw [Hid, HK.out, badOr, if_neg (by simpa using hn0)]
        have HI10 := Lib.hid (HI9.out.kinded n)
        clear hn0
        go_wp2_with (first | (refine wpList_store_tok HI10.out rfl (.tmp 4) (.tmp 153) rfl rfl rfl ?_))
        rw [hKn.out, hR2.out]
        exact bodyPost_ret (next_done HI10.out _ rfl) rfl ⟨rfl, (HI10.out.stored _).2⟩
    · have h1z : ¬ (k0 : Int) + 1 < (s.size : Int) := by omega
      go_wp2_with fail
      refine (rRest_any _ _).mono ?_
      rintro e w' ⟨rfl, rfl⟩
      rw [HQ.out]
      dsimp only
      go_wp2_with fail
      refine (rSigns_any _ _).mono ?_
      rintro e w' ⟨rfl, rfl⟩
      rw [HG.out]
      dsimp only
      have hks : (k0 : Int) ≤ ((k0 + 1) : Int) := by omega
      have hes : ((k0 + 1) : Int) ≤ (s.size : Int) := by omega
      have HN2 : Hid (kindL (s.extract k0 (k0 + 1)).data.toList = n) := by rw [← hR2.out]; exact HN.out
      go_wp2_with fail
      refine (rKind_any _ _ (ext_small s k0 (k0 + 1) hs)).mono ?_
      rintro e9 w9 ⟨rfl, hb9⟩
      rw [HN2.out]
      have HI9 := Lib.hid (hI.out.later hb9)
      clear hb9 c0 c1 c2 HN2
      obtain ⟨c0, c1, c2⟩ := HI9.out.cells
      have f0 := HI9.out.soft 0
      dsimp only
      by_cases hn0 : n = 0
      · have hz : (n != 0) = false := by rw [hn0]; rfl
        have hK3 : Hid (K = 3) := by rw [Hid, HK.out, hn0]; rfl
        clear hn0
        go_wp2_with (first | (refine wpList_store_tok HI9.out rfl (.tmp 4) (.tmp 153) rfl rfl rfl ?_))
        rw [hK3.out, hR2.out]
        exact bodyPost_ret (next_done HI9.out _ rfl) rfl ⟨rfl, (HI9.out.stored _).2⟩
      · have hz : (n != 0) = true := by rw [bne_iff_ne]; exact hn0
        have hKn : Hid (K = n) := by rw [Hid, HK.out, badOr, if_neg (by simpa using hn0)]
        have HI10 := Lib.hid (HI9.out.kinded n)
        clear hn0
        go_wp2_with (first | (refine wpList_store_tok HI10.out rfl (.tmp 4) (.tmp 153) rfl rfl rfl ?_))
        rw [hKn.out, hR2.out]
        exact bodyPost_ret (next_done HI10.out _ rfl) rfl ⟨rfl, (HI10.out.stored _).2⟩
end Go.Proofs.YtbbibngagdpdcaaGreatDoor
