import Derived.Test.YtbbibngagdpdcaaDoorD5
namespace Go.Proofs.YtbbibngagdpdcaaDoor
open Go Go.RowKit
open Go.Shelf
open Go.ChangeMaps Go.MapKept

theorem str_list (s : ByteArray) (l : List UInt8) (h : s.data.toList = l) : (.string s : Value) = strV l := by rw [← h, strV_data]

theorem rep_add (s like : ByteArray) (n : Nat) (c : UInt8) (t : List UInt8) (hs : s.data.toList = List.replicate n c) (hl : like.data.toList = c :: t) : (s ++ like.extract 0 1).data.toList = List.replicate (n + 1) c := by
  rw [ByteArray.data_append, Array.toList_append, hs, Lib.extract_data, hl, List.replicate_succ', List.drop_zero]
  rfl

theorem rep_two (like : ByteArray) (c : UInt8) (t : List UInt8) (hl : like.data.toList = c :: t) : (like.extract 0 1 ++ like.extract 0 1).data.toList = List.replicate 2 c := by
  rw [ByteArray.data_append, Array.toList_append, Lib.extract_data, hl]
  rfl

theorem one_size (like : ByteArray) : (like.extract 0 1).size ≤ 1 := by
  have := congrArg List.length (Lib.extract_data like 0 1)
  simp only [Array.length_toList, List.length_take, List.length_drop] at this
  have h2 : (like.extract 0 1).data.size = (like.extract 0 1).size := rfl
  omega

theorem rep_size (s : ByteArray) (n : Nat) (c : UInt8) (hs : s.data.toList = List.replicate n c) : s.size = n := by
  have := congrArg List.length hs
  simpa using this

set_option maxHeartbeats 1000000 in
theorem fresh_word (fs : List Fil) (v : Value) (s : ByteArray) (w : World) (ht : TabOk w) (hf : Few fs) (hv : FilesAt w v fs) (hs : s.size ≤ 140737488351232) (hk : kindL s.data.toList = 6) :
    Calls Tryd.prog 7 #[.string s, v] w fun e w' => ∃ r b, FreshIs fs s.data.toList r b ∧ e = .returned (.tuple #[strV r, .bool b]) ∧ Below w.heap.size w w' := by
  obtain ⟨a, c, rfl, hv'⟩ := id hv
  clear hv'
  have HV := Lib.hid hv
  have HF := Lib.hid hf
  have HT := Lib.hid ht
  have HK := Lib.hid hk
  clear hv hf ht hk
  go_enter Tryd.func7, Tryd.ntmps7
  go_wp2_with fail
  refine (kind_any s _ hs).mono ?_
  rintro e w1 ⟨rfl, hb1⟩
  rw [HK.out]
  dsimp only
  have HB1 := Lib.hid hb1
  have HV1 := Lib.hid (HV.out.later hb1)
  clear hb1
  go_wp2_with fail
  refine (taken_any fs _ _ HF.out HV1.out).mono ?_
  rintro e w2 ⟨v', rfl, hown, hb2⟩
  obtain ⟨K, I, hFF⟩ := firstFree_ex 1 (takenL fs) (by rw [taken_len]; have := spell_len fs HF.out; omega)
  have hS := strs_own hown rfl
  have HB2 := Lib.hid (Below.next HB1.out (Nat.le_refl _) hb2)
  have hc := fresh_1 (takenL fs) v' K I hFF w2 (HT.out.later HB2.out) hS (by rw [taken_len]; have := spell_len fs HF.out; omega)
  have HC := Lib.hid hc
  have HFF := Lib.hid hFF
  clear hc hFF hS hown hb2
  dsimp only
  go_wp2_with fail
  refine HC.out.mono ?_
  rintro e w3 ⟨rfl, hb3⟩
  go_wp2
  go_ret2
  exact ⟨_, _, .inl ⟨HK.out, rfl, K, I, HFF.out, rfl⟩, rfl, Below.next HB2.out (Nat.le_refl _) hb3⟩

set_option maxHeartbeats 1000000 in
theorem fresh_cap (fs : List Fil) (v : Value) (s : ByteArray) (w : World) (ht : TabOk w) (hf : Few fs) (hv : FilesAt w v fs) (hs : s.size ≤ 140737488351232) (hk : kindL s.data.toList = 7) :
    Calls Tryd.prog 7 #[.string s, v] w fun e w' => ∃ r b, FreshIs fs s.data.toList r b ∧ e = .returned (.tuple #[strV r, .bool b]) ∧ Below w.heap.size w w' := by
  obtain ⟨a, c, rfl, hv'⟩ := id hv
  clear hv'
  have HV := Lib.hid hv
  have HF := Lib.hid hf
  have HT := Lib.hid ht
  have HK := Lib.hid hk
  clear hv hf ht hk
  go_enter Tryd.func7, Tryd.ntmps7
  go_wp2_with fail
  refine (kind_any s _ hs).mono ?_
  rintro e w1 ⟨rfl, hb1⟩
  rw [HK.out]
  dsimp only
  have HB1 := Lib.hid hb1
  have HV1 := Lib.hid (HV.out.later hb1)
  clear hb1
  go_wp2_with fail
  refine (taken_any fs _ _ HF.out HV1.out).mono ?_
  rintro e w2 ⟨v', rfl, hown, hb2⟩
  obtain ⟨K, I, hFF⟩ := firstFree_ex 4 (takenL fs) (by rw [taken_len]; have := spell_len fs HF.out; omega)
  have hS := strs_own hown rfl
  have HB2 := Lib.hid (Below.next HB1.out (Nat.le_refl _) hb2)
  have hc := fresh_4 (takenL fs) v' K I hFF w2 (HT.out.later HB2.out) hS (by rw [taken_len]; have := spell_len fs HF.out; omega)
  have HC := Lib.hid hc
  have HFF := Lib.hid hFF
  clear hc hFF hS hown hb2
  dsimp only
  go_wp2_with fail
  refine HC.out.mono ?_
  rintro e w3 ⟨rfl, hb3⟩
  go_wp2
  go_ret2
  exact ⟨_, _, .inr (.inl ⟨HK.out, rfl, K, I, HFF.out, rfl⟩), rfl, Below.next HB2.out (Nat.le_refl _) hb3⟩

set_option maxHeartbeats 1000000 in
theorem fresh_none (fs : List Fil) (v : Value) (s : ByteArray) (w : World) (hv : FilesAt w v fs) (hs : s.size ≤ 140737488351232) (h6 : ¬ kindL s.data.toList = 6) (h7 : ¬ kindL s.data.toList = 7) (h9 : ¬ kindL s.data.toList = 9) :
    Calls Tryd.prog 7 #[.string s, v] w fun e w' => ∃ r b, FreshIs fs s.data.toList r b ∧ e = .returned (.tuple #[strV r, .bool b]) ∧ Below w.heap.size w w' := by
  obtain ⟨a, c, rfl, hv'⟩ := id hv
  clear hv' hv
  go_enter Tryd.func7, Tryd.ntmps7
  go_wp2_with fail
  refine (kind_any s _ hs).mono ?_
  rintro e w1 ⟨rfl, hb1⟩
  dsimp only
  go_wp2
  go_ret2
  exact ⟨[], false, .inr (.inr (.inr ⟨h6, h7, h9, rfl, rfl⟩)), rfl, hb1⟩

set_option maxHeartbeats 2000000 in
theorem fresh_sign (fs : List Fil) (v : Value) (like : ByteArray) (w : World) (hf : Few fs) (hv : FilesAt w v fs) (hs : like.size ≤ 140737488351232) (hk : kindL like.data.toList = 9) :
    Calls Tryd.prog 7 #[.string like, v] w fun e w' => ∃ r b, FreshIs fs like.data.toList r b ∧ e = .returned (.tuple #[strV r, .bool b]) ∧ Below w.heap.size w w' := by
  obtain ⟨a, c, rfl, hv'⟩ := id hv
  clear hv'
  obtain ⟨ch, t, hl, _⟩ := kind_sign_head hk
  have hpos : 1 ≤ like.size := kind_pos like (by omega)
  obtain ⟨N, hN⟩ := firstRep_ex (spellL fs) ch
  have hN1 : N ≤ 20000000 := by have := hN.small; have := spell_len fs hf; omega
  have hN2 := hN.two
  have HL := Lib.hid hl
  have HV := Lib.hid hv
  have HF := Lib.hid hf
  have HK := Lib.hid hk
  have HN := Lib.hid hN
  clear hv hf hk hl hN
  go_enter Tryd.func7, Tryd.ntmps7
  go_wp2_with fail
  refine (kind_any like _ hs).mono ?_
  rintro e w1 ⟨rfl, hb1⟩
  rw [HK.out]
  dsimp only
  have HB1 := Lib.hid hb1
  have HV1 := Lib.hid (HV.out.later hb1)
  clear hb1
  go_wp2_with fail
  refine (spelled_any fs _ _ HF.out HV1.out).mono ?_
  rintro e w2 ⟨rfl, hS, hb2⟩
  have HB2 := Lib.hid (Below.next HB1.out (Nat.le_refl _) hb2)
  have HS := Lib.hid hS
  have h1 := one_size like
  have hadd0 : ∀ W : World, (Op.stringOp .add (like.extract 0 1) (like.extract 0 1)).run Tryd.prog W = .ok (.string (like.extract 0 1 ++ like.extract 0 1)) W := fun W => run_string_add_sum W _ _ (by omega)
  clear hS hb2
  obtain ⟨mb, hmb⟩ : ∃ mb, mb = w1.heap.size := ⟨_, rfl⟩
  rw [← hmb] at HS ⊢
  have HM := Lib.hid hmb
  clear hmb
  dsimp only
  go_wp2
  go_quiet (fail)
  go_wp2
  clear hadd0
  have HB3 : Hid (∀ q, Below w.heap.size w (w2.drewN q)) := fun q => Below.next HB2.out (Nat.le_refl _) (below_draw0 _ q)
  have HS3 : Hid (∀ q, SpellAt (w2.drewN q) mb (mb + 1) (spellL fs)) := fun q => HS.out.later (below_draw0 _ q)
  have HR2 := Lib.hid (rep_two like ch t HL.out)
  clear HB2 HS HB1 HV1
  go_loopg [7] N (fun g v wr => ∃ (n : Nat) (s : ByteArray), v = .string s ∧ 2 ≤ n ∧ n ≤ N ∧ N - n ≤ g ∧ Hid (s.data.toList = List.replicate n ch) ∧ Hid (Below w.heap.size w wr) ∧ Hid (SpellAt wr mb (mb + 1) (spellL fs)))
  case atStart => exact ⟨2, _, rfl, Nat.le_refl _, hN2, by omega, HR2, HB3.out _, HS3.out _⟩
  case round =>
    obtain ⟨n, s, rfl, hn2, hnN, hg, hs7, hB, hS⟩ := hrel
    clear HR2 HB3 HS3
    have hsz : s.size ≤ 140737488351232 := by rw [rep_size s n ch hs7.out]; omega
    have hadd : ∀ W : World, (Op.stringOp .add s (like.extract 0 1)).run Tryd.prog W = .ok (.string (s ++ like.extract 0 1)) W := fun W => run_string_add_sum W _ _ (by omega)
    go_wp2_with fail
    refine (alike_any s like _ hsz hs).mono ?_
    rintro e w4 ⟨rfl, hb4⟩
    rw [hs7.out, alike_rep HL.out HK.out n hn2]
    dsimp only
    have hS4 := hS.out.later hb4
    obtain ⟨v0, hlook, own0, _⟩ := hS4.look (List.replicate n ch) (by unfold maxLen; simp; omega) (by have := spell_len fs HF.out; unfold maxLen; omega)
    rw [← str_list s _ hs7.out] at hlook
    obtain ⟨a0, c0, rfl⟩ := own_slice own0
    have hB4 := Lib.hid (Below.next hB.out (Nat.le_refl _) hb4)
    have HS4 := Lib.hid hS4
    by_cases hnn : n = N
    · subst hnn
      have hlen : (getP (spellL fs) (List.replicate n ch)).length = 0 := by rw [HN.out.free]; rfl
      rw [hlen] at hlook
      clear hlen own0 hS4 hb4 hB hS
      go_wp2_with (go_at_call 17; refine (clone_any s _ (by omega)).mono ?_; rintro e w5 ⟨rfl, hb5⟩)
      go_ret2
      exact ⟨List.replicate n ch, true, .inr (.inr (.inl ⟨HK.out, rfl, ch, t, n, HL.out, HN.out, rfl⟩)), by rw [← str_list s _ hs7.out]; rfl, Below.next hB4.out (Nat.le_refl _) hb5⟩
    · have hlen : 0 < (getP (spellL fs) (List.replicate n ch)).length := List.length_pos_iff.2 (HN.out.taken n hn2 (by omega))
      obtain ⟨m, hm⟩ : ∃ m, (getP (spellL fs) (List.replicate n ch)).length = m := ⟨_, rfl⟩
      rw [hm] at hlook hlen
      have hr := Lib.hid (rep_add s like n ch t hs7.out HL.out)
      clear hm own0 hS4 hb4 hB hS
      go_wp2
      go_roundg (N - (n + 1))
      case measure => omega
      case rel => exact ⟨n + 1, _, rfl, by omega, by omega, Nat.le_refl _, hr, hB4, HS4⟩

theorem fresh_any (fs : List Fil) (v : Value) (s : ByteArray) (w : World) (ht : TabOk w) (hf : Few fs) (hv : FilesAt w v fs) (hs : s.size ≤ 140737488351232) :
    Calls Tryd.prog 7 #[.string s, v] w fun e w' => ∃ r b, FreshIs fs s.data.toList r b ∧ e = .returned (.tuple #[strV r, .bool b]) ∧ Below w.heap.size w w' := by
  by_cases h6 : kindL s.data.toList = 6
  · exact fresh_word fs v s w ht hf hv hs h6
  by_cases h7 : kindL s.data.toList = 7
  · exact fresh_cap fs v s w ht hf hv hs h7
  by_cases h9 : kindL s.data.toList = 9
  · exact fresh_sign fs v s w hf hv hs h9
  · exact fresh_none fs v s w hv hs h6 h7 h9
end Go.Proofs.YtbbibngagdpdcaaDoor
