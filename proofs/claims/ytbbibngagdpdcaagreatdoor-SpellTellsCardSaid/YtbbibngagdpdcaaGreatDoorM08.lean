/-
  PROVED HERE: a part of the proof of the card 'SpellTellsCardSaid': what functions of the program, or of the document's packages, that SpellTells reaches compute (texts B5, B6). CONDITIONS: each theorem's own.
-/
import Derived.Test.YtbbibngagdpdcaaGreatDoorM07
namespace Go.Proofs.YtbbibngagdpdcaaGreatDoor
open Go Go.RowKit
open Go.Shelf

theorem ext_size (s : ByteArray) (a b : Nat) (h : b ≤ s.size) : (s.extract a b).size ≤ s.size := by
  rw [ByteArray.size_extract]; omega

/-- The kind 0 is bad. -/
def badOr (K : Int) : Int := if (K == 0) = true then 3 else K
theorem badOr_yes (K : Int) (h : (K == 0) = true) : (3 : Int) = badOr K := by rw [badOr, if_pos h]
theorem badOr_no (K : Int) (h : (K == 0) = false) : K = badOr K := by rw [badOr, if_neg (by rw [h]; decide)]
theorem ret_ii {a b c d : Int} (h : a = c) (h' : b = d) : Ending.returned (.tuple #[.int .i64 a, .int .i64 b]) = .returned (.tuple #[.int .i64 c, .int .i64 d]) := by rw [h, h']

set_option maxHeartbeats 1000000 in
set_option maxRecDepth 100000 in
theorem next_sign (b : Nat) (s : ByteArray) (k : Nat) (w : World) (hc : Cur w b s k) (hk : k < s.size) (hs : s.size ≤ 140737488351232) (h1 : blankB s[k].toNat = false) (h2 : Lib.hasPrefix (s.data.toList.drop k) [40, 42] = false) (h4 : ((s[k].toNat : Int) == 34) = false) (h5 : digitB s[k].toNat = false) (h6 : signB s[k].toNat = true) (E : Nat) (hE : k + runL signB (s.data.toList.drop k) = E) (hE1 : k ≤ E) (hE2 : E ≤ s.size) (K : Int) (hK : kindL (s.extract k E).data.toList = K) :
    Calls Tryz.prog 70 #[.pointer (some ⟨b, 0, none⟩)] w fun e w' => e = .returned (.tuple #[.int .i64 (badOr K), .int .i64 (E : Int)]) ∧ Below w.heap.size w w' := by
  have c0 := hc.text
  have c1 := hc.place
  have HC := Lib.hid hc
  have H1 := Lib.hid h1
  have H2 := Lib.hid (ext_prefix s k false _ h2)
  have H5 := Lib.hid h5
  have H6 := Lib.hid h6
  have HE := Lib.hid hE
  have hu : (s[k].toNat : Int) ≤ 255 := by have := s[k].toNat_lt; omega
  have hEs : (s.extract k E).size ≤ 140737488351232 := Nat.le_trans (ext_size s k E hE2) hs
  clear hc h1 h2 h5 h6 hE
  go_enter Tryz.func70, Tryz.ntmps70
  go_wp2
  go_quiet (fail)
  go_wp2_with (first | (go_at_call 92; refine (blank_to false _ _ H1.out).mono ?_; rintro e w' ⟨rfl, rfl⟩))
  go_quiet ((go_at_call 94; exact quiet_add_left (prefix_to false _ ⟨#[40, 42]⟩ _ H2.out)))
  go_wp2_with (first | (go_at_call 98; refine (digit_to false _ _ H5.out).mono ?_; rintro e w' ⟨rfl, rfl⟩))
  refine (lsign_to true _ _ (by omega) hu H6.out).mono ?_
  rintro e w1 ⟨rfl, hb⟩
  have hB := Lib.hid (Below.next (below_draw0 _ _) (Nat.le_refl _) hb)
  have hc1 := HC.out.later hB.out
  have c0' := hc1.text
  have c1' := hc1.place
  clear hb hc1
  dsimp only
  go_wp2_with fail
  refine (run_any 100 _ enters_lsign byteB_sign b s k k _ (HC.out.later hB.out) (by omega) hs).mono ?_
  rintro e w2 ⟨rfl, hb2⟩
  rw [HE.out]
  have hB2 := Lib.hid (Below.next hB.out (Nat.le_refl _) hb2)
  have hc2 := HC.out.later hB2.out
  have c0'' := hc2.text
  have c1'' := hc2.place
  clear hb2 hc2 c0 c1 c0' c1'
  dsimp only
  go_wp2_with fail
  go_still_tail 10, (by kernel_rfl)
  have hcall : ∀ W, Calls Tryz.prog 15 #[.string (s.extract k E)] W fun e w' => e = .returned (.int .i64 K) ∧ Below W.heap.size W w' := fun W => by have := kind_any (s.extract k E) W hEs; rw [hK] at this; exact this
  have HK := Lib.hid hK
  have HCK := Lib.hid hcall
  clear hK hcall
  go_wp2_with (go_at_call 15; refine (HCK.out _).mono ?_; rintro e w3 ⟨rfl, hb3⟩)
  all_goals
    go_ret2
    refine ⟨?_, Below.next (below_draws hB2.out 1) (Nat.le_refl _) hb3⟩
    exact ret_ii (by first | exact badOr_yes K (by assumption) | exact badOr_no K (by assumption)) rfl

set_option maxHeartbeats 1000000 in
set_option maxRecDepth 100000 in
theorem next_rest (b : Nat) (s : ByteArray) (k : Nat) (w : World) (hc : Cur w b s k) (hk : k < s.size) (hs : s.size ≤ 140737488351232) (h1 : blankB s[k].toNat = false) (h2 : Lib.hasPrefix (s.data.toList.drop k) [40, 42] = false) (h4 : ((s[k].toNat : Int) == 34) = false) (h5 : digitB s[k].toNat = false) (h6 : signB s[k].toNat = false) (h7 : restB s[k].toNat = true) (E : Nat) (hE : k + runL restB (s.data.toList.drop k) = E) (hE1 : k ≤ E) (hE2 : E ≤ s.size) (K : Int) (hK : kindL (s.extract k E).data.toList = K) :
    Calls Tryz.prog 70 #[.pointer (some ⟨b, 0, none⟩)] w fun e w' => e = .returned (.tuple #[.int .i64 (badOr K), .int .i64 (E : Int)]) ∧ Below w.heap.size w w' := by
  have c0 := hc.text
  have c1 := hc.place
  have HC := Lib.hid hc
  have H1 := Lib.hid h1
  have H2 := Lib.hid (ext_prefix s k false _ h2)
  have H5 := Lib.hid h5
  have H6 := Lib.hid h6
  have HE := Lib.hid hE
  have hu : (s[k].toNat : Int) ≤ 255 := by have := s[k].toNat_lt; omega
  have hEs : (s.extract k E).size ≤ 140737488351232 := Nat.le_trans (ext_size s k E hE2) hs
  have H7 := Lib.hid h7
  clear h7
  clear hc h1 h2 h5 h6 hE
  go_enter Tryz.func70, Tryz.ntmps70
  go_wp2
  go_quiet (fail)
  go_wp2_with (first | (go_at_call 92; refine (blank_to false _ _ H1.out).mono ?_; rintro e w' ⟨rfl, rfl⟩))
  go_quiet ((go_at_call 94; exact quiet_add_left (prefix_to false _ ⟨#[40, 42]⟩ _ H2.out)))
  go_wp2_with (first | (go_at_call 98; refine (digit_to false _ _ H5.out).mono ?_; rintro e w' ⟨rfl, rfl⟩))
  refine (lsign_to false _ _ (by omega) hu H6.out).mono ?_
  rintro e w1 ⟨rfl, hb⟩
  have hB := Lib.hid (Below.next (below_draw0 _ _) (Nat.le_refl _) hb)
  have hc1 := HC.out.later hB.out
  have c0' := hc1.text
  have c1' := hc1.place
  clear hb hc1
  dsimp only
  go_wp2_with fail
  refine (lrest_to true _ _ (by omega) hu H7.out).mono ?_
  rintro e w1' ⟨rfl, hb'⟩
  have hB' := Lib.hid (Below.next hB.out (Nat.le_refl _) hb')
  have hc1' := HC.out.later hB'.out
  have d0 := hc1'.text
  have d1 := hc1'.place
  clear hb' hc1'
  dsimp only
  go_wp2_with fail
  refine (run_any 99 _ enters_lrest byteB_rest b s k k _ (HC.out.later hB'.out) (by omega) hs).mono ?_
  rintro e w2 ⟨rfl, hb2⟩
  rw [HE.out]
  have hB2 := Lib.hid (Below.next hB'.out (Nat.le_refl _) hb2)
  have hc2 := HC.out.later hB2.out
  have c0'' := hc2.text
  have c1'' := hc2.place
  clear hb2 hc2 c0 c1 c0' c1' d0 d1
  dsimp only
  go_wp2_with fail
  go_still_tail 10, (by kernel_rfl)
  have hcall : ∀ W, Calls Tryz.prog 15 #[.string (s.extract k E)] W fun e w' => e = .returned (.int .i64 K) ∧ Below W.heap.size W w' := fun W => by have := kind_any (s.extract k E) W hEs; rw [hK] at this; exact this
  have HK := Lib.hid hK
  have HCK := Lib.hid hcall
  clear hK hcall
  go_wp2_with (go_at_call 15; refine (HCK.out _).mono ?_; rintro e w3 ⟨rfl, hb3⟩)
  all_goals
    go_ret2
    refine ⟨?_, Below.next (below_draws hB2.out 1) (Nat.le_refl _) hb3⟩
    exact ret_ii (by first | exact badOr_yes K (by assumption) | exact badOr_no K (by assumption)) rfl

set_option maxHeartbeats 1000000 in
set_option maxRecDepth 100000 in
theorem next_else (b : Nat) (s : ByteArray) (k : Nat) (w : World) (hc : Cur w b s k) (hk : k < s.size) (hs : s.size ≤ 140737488351232) (h1 : blankB s[k].toNat = false) (h2 : Lib.hasPrefix (s.data.toList.drop k) [40, 42] = false) (h4 : ((s[k].toNat : Int) == 34) = false) (h5 : digitB s[k].toNat = false) (h6 : signB s[k].toNat = false) (h7 : restB s[k].toNat = false) (E : Nat) (hE : E = k + 1) (hE2 : E ≤ s.size) (K : Int) (hK : kindL (s.extract k E).data.toList = K) :
    Calls Tryz.prog 70 #[.pointer (some ⟨b, 0, none⟩)] w fun e w' => e = .returned (.tuple #[.int .i64 (badOr K), .int .i64 (E : Int)]) ∧ Below w.heap.size w w' := by
  have c0 := hc.text
  have c1 := hc.place
  have HC := Lib.hid hc
  have H1 := Lib.hid h1
  have H2 := Lib.hid (ext_prefix s k false _ h2)
  have H5 := Lib.hid h5
  have H6 := Lib.hid h6
  have hu : (s[k].toNat : Int) ≤ 255 := by have := s[k].toNat_lt; omega
  have hEs : (s.extract k E).size ≤ 140737488351232 := Nat.le_trans (ext_size s k E hE2) hs
  have H7 := Lib.hid h7
  clear h7
  have HE := Lib.hid hE
  have hkE : k ≤ E := by omega
  clear hc h1 h2 h5 h6 hE
  go_enter Tryz.func70, Tryz.ntmps70
  go_wp2
  go_quiet (fail)
  go_wp2_with (first | (go_at_call 92; refine (blank_to false _ _ H1.out).mono ?_; rintro e w' ⟨rfl, rfl⟩))
  go_quiet ((go_at_call 94; exact quiet_add_left (prefix_to false _ ⟨#[40, 42]⟩ _ H2.out)))
  go_wp2_with (first | (go_at_call 98; refine (digit_to false _ _ H5.out).mono ?_; rintro e w' ⟨rfl, rfl⟩))
  refine (lsign_to false _ _ (by omega) hu H6.out).mono ?_
  rintro e w1 ⟨rfl, hb⟩
  have hB := Lib.hid (Below.next (below_draw0 _ _) (Nat.le_refl _) hb)
  have hc1 := HC.out.later hB.out
  have c0' := hc1.text
  have c1' := hc1.place
  clear hb hc1
  dsimp only
  go_wp2_with fail
  refine (lrest_to false _ _ (by omega) hu H7.out).mono ?_
  rintro e w1' ⟨rfl, hb'⟩
  have hB' := Lib.hid (Below.next hB.out (Nat.le_refl _) hb')
  have hc1' := HC.out.later hB'.out
  have d0 := hc1'.text
  have d1 := hc1'.place
  clear hb' hc1'
  dsimp only
  go_wp2_with fail
  rw [show (k : Int) + 1 = (E : Int) from by have := HE.out; omega]
  clear c0 c1 c0' c1'
  go_still_tail 10, (by kernel_rfl)
  have hcall : ∀ W, Calls Tryz.prog 15 #[.string (s.extract k E)] W fun e w' => e = .returned (.int .i64 K) ∧ Below W.heap.size W w' := fun W => by have := kind_any (s.extract k E) W hEs; rw [hK] at this; exact this
  have HK := Lib.hid hK
  have HCK := Lib.hid hcall
  clear hK hcall
  go_wp2_with (go_at_call 15; refine (HCK.out _).mono ?_; rintro e w3 ⟨rfl, hb3⟩)
  all_goals
    go_ret2
    refine ⟨?_, Below.next (below_draws hB'.out 1) (Nat.le_refl _) hb3⟩
    exact ret_ii (by first | exact badOr_yes K (by assumption) | exact badOr_no K (by assumption)) rfl
end Go.Proofs.YtbbibngagdpdcaaGreatDoor

namespace Go.Proofs.YtbbibngagdpdcaaGreatDoor
open Go Go.RowKit
open Go.Shelf

/-- THE TOKEN THAT BEGINS AT PLACE k: its kind, and its end. -/
def tok (l : List UInt8) (k : Nat) : Int × Nat :=
  match l.drop k with
  | [] => (3, k + 1)
  | c :: t =>
    if blankB c.toNat = true then (1, k + runL blankB (c :: t))
    else if Lib.hasPrefix (c :: t) [40, 42] = true then (if noteEnd l k < 0 then (3, l.length) else (2, (noteEnd l k).toNat))
    else if ((c.toNat : Int) == 34) = true then (if textGo t (k + 1) < 0 then (3, k + runL (fun c => !decide (c = 10)) (c :: t)) else (5, (textGo t (k + 1)).toNat))
    else if digitB c.toNat = true then (if runL digitB (c :: t) < runL restB (c :: t) then (3, k + runL restB (c :: t)) else (4, k + runL restB (c :: t)))
    else if signB c.toNat = true then (badOr (kindL ((c :: t).take (runL signB (c :: t)))), k + runL signB (c :: t))
    else if restB c.toNat = true then (badOr (kindL ((c :: t).take (runL restB (c :: t)))), k + runL restB (c :: t))
    else (badOr (kindL [c]), k + 1)

theorem runL_le (p : Int → Bool) : ∀ l : List UInt8, runL p l ≤ l.length
  | [] => Nat.le_refl _
  | b :: r => by
    unfold runL
    split
    · have := runL_le p r
      simp only [List.length_cons]; omega
    · exact Nat.zero_le _

theorem runL_pos (p : Int → Bool) (c : UInt8) (t : List UInt8) (h : p c.toNat = true) : 0 < runL p (c :: t) := by
  unfold runL
  rw [if_pos h]
  omega

theorem noteGo_le : ∀ (f : Nat) (d : Int) (l : List UInt8) (k : Nat), 0 ≤ noteGo f d l k → (k : Int) < noteGo f d l k ∧ noteGo f d l k ≤ k + l.length
  | 0, _, _, _, h => by simp [noteGo] at h
  | f + 1, d, l, k, h => by
    unfold noteGo at h ⊢
    by_cases h0 : l = []
    · rw [if_pos h0] at h; omega
    · rw [if_neg h0] at h ⊢
      have hl : 0 < l.length := List.length_pos_iff.2 h0
      by_cases h1 : Lib.hasPrefix l [40, 42] = true
      · have h2 := hasPrefix_two h1
        rw [if_pos h1] at h ⊢
        by_cases h3 : 0 < d + 1
        · rw [if_pos h3] at h ⊢
          have := noteGo_le f (d + 1) (l.drop 2) (k + 2) h
          rw [List.length_drop] at this
          omega
        · rw [if_neg h3] at h ⊢; omega
      · rw [if_neg h1] at h ⊢
        by_cases h2 : Lib.hasPrefix l [42, 41] = true
        · have h3 := hasPrefix_two h2
          rw [if_pos h2] at h ⊢
          by_cases h4 : 0 < d - 1
          · rw [if_pos h4] at h ⊢
            have := noteGo_le f (d - 1) (l.drop 2) (k + 2) h
            rw [List.length_drop] at this
            omega
          · rw [if_neg h4] at h ⊢; omega
        · rw [if_neg h2] at h ⊢
          by_cases h4 : 0 < d
          · rw [if_pos h4] at h ⊢
            have := noteGo_le f d (l.drop 1) (k + 1) h
            rw [List.length_drop] at this
            omega
          · rw [if_neg h4] at h ⊢; omega

theorem textGo_le : ∀ (n : Nat) (l : List UInt8) (k : Nat), l.length ≤ n → 0 ≤ textGo l k → (k : Int) < textGo l k ∧ textGo l k ≤ k + l.length
  | _, [], _, _, h => by simp [textGo] at h
  | 0, _ :: _, _, hn, _ => by simp at hn
  | n + 1, c :: r, k, hn, h => by
    simp only [List.length_cons] at hn
    rw [textGo_cons] at h ⊢
    simp only [List.length_cons]
    by_cases h1 : ((c.toNat : Int) == 34) = true
    · rw [if_pos h1] at h ⊢; omega
    · rw [if_neg h1] at h ⊢
      by_cases h2 : ((c.toNat : Int) == 10) = true
      · rw [if_pos h2] at h; omega
      · rw [if_neg h2] at h ⊢
        by_cases h3 : ((c.toNat : Int) == 92) = true
        · rw [if_pos h3] at h ⊢
          match r, hn, h with
          | [], _, h => simp at h
          | d :: r', hn, h =>
            simp only [List.length_cons] at hn ⊢
            by_cases h4 : escB d = true
            · simp only [h4, if_true] at h ⊢
              have := textGo_le n r' (k + 2) (by omega) h
              omega
            · simp only [h4] at h
              simp at h
        · rw [if_neg h3] at h ⊢
          have := textGo_le n r (k + 1) (by omega) h
          omega

theorem digit_rest (c : Int) (h : digitB c = true) : restB c = true := by
  simp [restB, h]

theorem tok_bounds (l : List UInt8) (k : Nat) (hk : k < l.length) : k < (tok l k).2 ∧ (tok l k).2 ≤ l.length := by
  unfold tok
  obtain ⟨c, t, hct⟩ : ∃ c t, l.drop k = c :: t := by
    cases hd : l.drop k with
    | nil => rw [List.drop_eq_nil_iff] at hd; omega
    | cons c t => exact ⟨c, t, rfl⟩
  have hlen : (c :: t).length = l.length - k := by rw [← hct, List.length_drop]
  have hb : ∀ p, runL p (c :: t) ≤ l.length - k := fun p => hlen ▸ runL_le p _
  have hpos := fun p h => runL_pos p c t h
  rw [hct]
  dsimp only
  by_cases h1 : blankB c.toNat = true
  · rw [if_pos h1]
    have := hb blankB
    have := hpos blankB h1
    dsimp only; omega
  rw [if_neg h1]
  by_cases h2 : Lib.hasPrefix (c :: t) [40, 42] = true
  · rw [if_pos h2]
    by_cases h3 : noteEnd l k < 0
    · rw [if_pos h3]; dsimp only; omega
    · rw [if_neg h3]
      have h4 := noteGo_le _ _ _ _ (show 0 ≤ noteGo (l.length + 1) 0 (l.drop k) k from by unfold noteEnd at h3; omega)
      rw [List.length_drop] at h4
      unfold noteEnd
      dsimp only; omega
  rw [if_neg h2]
  by_cases h3 : ((c.toNat : Int) == 34) = true
  · rw [if_pos h3]
    by_cases h4 : textGo t (k + 1) < 0
    · rw [if_pos h4]
      have h5 : (fun c : Int => !decide (c = 10)) c.toNat = true := by
        simp at h3
        simp [h3]
      have := hb (fun c => !decide (c = 10))
      have := hpos (fun c => !decide (c = 10)) h5
      dsimp only; omega
    · rw [if_neg h4]
      have h5 := textGo_le t.length t (k + 1) (Nat.le_refl _) (by omega)
      simp only [List.length_cons] at hlen
      dsimp only; omega
  rw [if_neg h3]
  by_cases h4 : digitB c.toNat = true
  · rw [if_pos h4]
    have := hb restB
    have := hpos restB (digit_rest _ h4)
    split <;> (dsimp only; omega)
  rw [if_neg h4]
  by_cases h5 : signB c.toNat = true
  · rw [if_pos h5]
    have := hb signB
    have := hpos signB h5
    dsimp only; omega
  rw [if_neg h5]
  by_cases h6 : restB c.toNat = true
  · rw [if_pos h6]
    have := hb restB
    have := hpos restB h6
    dsimp only; omega
  rw [if_neg h6]
  dsimp only; omega

theorem ext_take (s : ByteArray) (k n : Nat) : (s.extract k (k + n)).data.toList = (s.data.toList.drop k).take n := by
  rw [Lib.extract_data, show k + n - k = n by omega]

theorem next_any (b : Nat) (s : ByteArray) (k : Nat) (w : World) (hc : Cur w b s k) (hk : k < s.size) (hs : s.size ≤ 140737488351232) :
    Calls Tryz.prog 70 #[.pointer (some ⟨b, 0, none⟩)] w fun e w' => e = .returned (.tuple #[.int .i64 (tok s.data.toList k).1, .int .i64 ((tok s.data.toList k).2 : Nat)]) ∧ Below w.heap.size w w' := by
  have hd := drop_cons s k hk
  have hlen : s.data.toList.length = s.size := by simp
  have hbd := tok_bounds s.data.toList k (by omega)
  unfold tok at hbd ⊢
  rw [hd] at hbd ⊢
  dsimp only at hbd ⊢
  generalize ht : s.data.toList.drop (k + 1) = t at hd hbd ⊢
  by_cases h1 : blankB s[k].toNat = true
  · rw [if_pos h1]
    have := next_blank b s k w hc hk hs h1
    rw [hd] at this
    exact this
  rw [if_neg h1] at hbd ⊢
  rw [Bool.not_eq_true] at h1
  by_cases h2 : Lib.hasPrefix (s[k] :: t) [40, 42] = true
  · rw [if_pos h2]
    by_cases h3 : noteEnd s.data.toList k < 0
    · rw [if_pos h3, hlen]
      exact next_open b s k w hc hk hs h1 (by rw [hd]; exact h2) h3
    · rw [if_neg h3]
      have := next_note b s k w hc hk hs h1 (by rw [hd]; exact h2) h3
      rw [show ((noteEnd s.data.toList k).toNat : Int) = noteEnd s.data.toList k by omega]
      exact this
  rw [if_neg h2] at hbd ⊢
  rw [Bool.not_eq_true] at h2
  have h2' : Lib.hasPrefix (s.data.toList.drop k) [40, 42] = false := by rw [hd]; exact h2
  by_cases h3 : ((s[k].toNat : Int) == 34) = true
  · rw [if_pos h3]
    by_cases h4 : textGo t (k + 1) < 0
    · rw [if_pos h4]
      have := next_badtext b s k w hc hk hs h1 h2' h3 (by rw [ht]; exact h4)
      rw [hd] at this
      exact this
    · rw [if_neg h4]
      have := next_text b s k w hc hk hs h1 h2' h3 (by rw [ht]; exact h4)
      rw [ht] at this
      rw [show ((textGo t (k + 1)).toNat : Int) = textGo t (k + 1) by omega]
      exact this
  rw [if_neg h3] at hbd ⊢
  rw [Bool.not_eq_true] at h3
  by_cases h4 : digitB s[k].toNat = true
  · rw [if_pos h4]
    by_cases h5 : runL digitB (s[k] :: t) < runL restB (s[k] :: t)
    · rw [if_pos h5]
      have := next_badint b s k w hc hk hs h1 h2' h3 h4 (by rw [hd]; exact h5)
      rw [hd] at this
      exact this
    · rw [if_neg h5]
      have := next_int b s k w hc hk hs h1 h2' h3 h4 (by rw [hd]; omega)
      rw [hd] at this
      exact this
  rw [if_neg h4] at hbd ⊢
  rw [Bool.not_eq_true] at h4
  by_cases h5 : signB s[k].toNat = true
  · rw [if_pos h5] at hbd ⊢
    dsimp only at hbd ⊢
    exact next_sign b s k w hc hk hs h1 h2' h3 h4 h5 _ (by rw [hd]) (by omega) (by omega) _ (by rw [ext_take, hd])
  rw [if_neg h5] at hbd ⊢
  rw [Bool.not_eq_true] at h5
  by_cases h6 : restB s[k].toNat = true
  · rw [if_pos h6] at hbd ⊢
    dsimp only at hbd ⊢
    exact next_rest b s k w hc hk hs h1 h2' h3 h4 h5 h6 _ (by rw [hd]) (by omega) (by omega) _ (by rw [ext_take, hd])
  rw [if_neg h6]
  rw [Bool.not_eq_true] at h6
  exact next_else b s k w hc hk hs h1 h2' h3 h4 h5 h6 (k + 1) rfl (by omega) _ (by rw [ext_take, hd]; rfl)
end Go.Proofs.YtbbibngagdpdcaaGreatDoor
