/-
  PROVED HERE: a part of the proof of the card 'SpellTellsCardSaid': what functions of the program, or of the document's packages, that SpellTells reaches compute (texts H9, I0). CONDITIONS: each theorem's own.
-/
import Derived.Test.YtbbibngagdpdcaaGreatDoorM25
import Derived.Test.YtbbibngagdpdcaaGreatDoorM26
namespace Go.Proofs.YtbbibngagdpdcaaGreatDoor
open Go Go.RowKit
open Go.Shelf

set_option maxHeartbeats 1000000 in
theorem rfresh_word (fs : List Fil) (v : Value) (s : ByteArray) (w : World) (hf : Few fs) (hv : FilesAt w v fs) (hs : s.size ≤ 140737488351232) (hk : kindL s.data.toList = 6) :
    Calls Tryz.prog 7 #[.string s, v] w fun e w' => ∃ r b, FreshIs fs s.data.toList r b ∧ e = .returned (.tuple #[strV r, .bool b]) ∧ Below w.heap.size w w' := by
  obtain ⟨a, c, rfl, hv'⟩ := id hv
  clear hv'
  have HV := Lib.hid hv
  have HF := Lib.hid hf
  have HK := Lib.hid hk
  clear hv hf hk
  go_enter Tryz.func7, Tryz.ntmps7
  go_wp2_with fail
  refine (rKind_any s _ hs).mono ?_
  rintro e w1 ⟨rfl, hb1⟩
  rw [HK.out]
  dsimp only
  have HB1 := Lib.hid hb1
  have HV1 := Lib.hid (HV.out.later hb1)
  clear hb1
  go_wp2_with fail
  refine (rTaken_any fs _ _ HF.out HV1.out).mono ?_
  rintro e w2 ⟨v', rfl, hown, hb2⟩
  have hS := strs_own hown rfl
  have HB2 := Lib.hid (Below.next HB1.out (Nat.le_refl _) hb2)
  have hc := rFresh1_any (takenL fs) v' w2 hS (by rw [taken_len]; have := spell_len fs HF.out; omega)
  have HC := Lib.hid hc
  clear hc hS hown hb2
  dsimp only
  go_wp2_with fail
  refine HC.out.mono ?_
  rintro e w3 ⟨K, I, hFF, rfl, hb3⟩
  have HFF := Lib.hid hFF
  clear hFF
  go_wp2
  go_ret2
  exact ⟨_, _, .inl ⟨HK.out, rfl, K, I, HFF.out, rfl⟩, rfl, Below.next HB2.out (Nat.le_refl _) hb3⟩

set_option maxHeartbeats 1000000 in
theorem rfresh_cap (fs : List Fil) (v : Value) (s : ByteArray) (w : World) (hf : Few fs) (hv : FilesAt w v fs) (hs : s.size ≤ 140737488351232) (hk : kindL s.data.toList = 7) :
    Calls Tryz.prog 7 #[.string s, v] w fun e w' => ∃ r b, FreshIs fs s.data.toList r b ∧ e = .returned (.tuple #[strV r, .bool b]) ∧ Below w.heap.size w w' := by
  obtain ⟨a, c, rfl, hv'⟩ := id hv
  clear hv'
  have HV := Lib.hid hv
  have HF := Lib.hid hf
  have HK := Lib.hid hk
  clear hv hf hk
  go_enter Tryz.func7, Tryz.ntmps7
  go_wp2_with fail
  refine (rKind_any s _ hs).mono ?_
  rintro e w1 ⟨rfl, hb1⟩
  rw [HK.out]
  dsimp only
  have HB1 := Lib.hid hb1
  have HV1 := Lib.hid (HV.out.later hb1)
  clear hb1
  go_wp2_with fail
  refine (rTaken_any fs _ _ HF.out HV1.out).mono ?_
  rintro e w2 ⟨v', rfl, hown, hb2⟩
  have hS := strs_own hown rfl
  have HB2 := Lib.hid (Below.next HB1.out (Nat.le_refl _) hb2)
  have hc := rFresh4_any (takenL fs) v' w2 hS (by rw [taken_len]; have := spell_len fs HF.out; omega)
  have HC := Lib.hid hc
  clear hc hS hown hb2
  dsimp only
  go_wp2_with fail
  refine HC.out.mono ?_
  rintro e w3 ⟨K, I, hFF, rfl, hb3⟩
  have HFF := Lib.hid hFF
  clear hFF
  go_wp2
  go_ret2
  exact ⟨_, _, .inr (.inl ⟨HK.out, rfl, K, I, HFF.out, rfl⟩), rfl, Below.next HB2.out (Nat.le_refl _) hb3⟩

set_option maxHeartbeats 1000000 in
theorem rfresh_none (fs : List Fil) (v : Value) (s : ByteArray) (w : World) (hv : FilesAt w v fs) (hs : s.size ≤ 140737488351232) (h6 : ¬ kindL s.data.toList = 6) (h7 : ¬ kindL s.data.toList = 7) (h9 : ¬ kindL s.data.toList = 9) :
    Calls Tryz.prog 7 #[.string s, v] w fun e w' => ∃ r b, FreshIs fs s.data.toList r b ∧ e = .returned (.tuple #[strV r, .bool b]) ∧ Below w.heap.size w w' := by
  obtain ⟨a, c, rfl, hv'⟩ := id hv
  clear hv' hv
  go_enter Tryz.func7, Tryz.ntmps7
  go_wp2_with fail
  refine (rKind_any s _ hs).mono ?_
  rintro e w1 ⟨rfl, hb1⟩
  have e6 : ((kindL s.data.toList : Int) == 6) = false := by simpa using h6
  have e7 : ((kindL s.data.toList : Int) == 7) = false := by simpa using h7
  have e9 : ((kindL s.data.toList : Int) != 9) = true := by simpa using h9
  dsimp only
  go_wp2
  go_ret2
  exact ⟨[], false, .inr (.inr (.inr ⟨h6, h7, h9, rfl, rfl⟩)), rfl, hb1⟩

theorem ext_head1 (like : ByteArray) (c : UInt8) (t : List UInt8) (hl : like.data.toList = c :: t) : (like.extract 0 1).data.toList = List.replicate 1 c := by
  rw [Lib.extract_data, hl]
  rfl

set_option maxHeartbeats 2000000 in
theorem rfresh_sign (fs : List Fil) (v : Value) (like : ByteArray) (w : World) (hf : Few fs) (hv : FilesAt w v fs) (hs : like.size ≤ 140737488351232) (hk : kindL like.data.toList = 9) :
    Calls Tryz.prog 7 #[.string like, v] w fun e w' => ∃ r b, FreshIs fs like.data.toList r b ∧ e = .returned (.tuple #[strV r, .bool b]) ∧ Below w.heap.size w w' := by
  obtain ⟨a, c, rfl, hv'⟩ := id hv
  clear hv'
  obtain ⟨ch, t, hl, _⟩ := kind_sign_head hk
  have hpos : 1 ≤ like.size := kind_pos like (by omega)
  obtain ⟨N, hN⟩ := firstRep_ex (spellL fs) ch
  have hN2 := hN.two
  have hN3 := hN.small
  rw [← taken_len] at hN3
  have hN1 : (takenL fs).length ≤ 20000000 := by have := spell_len fs hf; rw [taken_len]; omega
  have hal : ∀ n, 2 ≤ n → alikeL (List.replicate n ch) like.data.toList = true := fun n hn => alike_rep hl hk n hn
  have hfree : (takenL fs).contains (List.replicate N ch) = false := by
    rw [← Bool.not_eq_true, List.contains_iff_mem]
    exact fun h => (taken_places fs _).1 h hN.free
  have htk : ∀ m, 2 ≤ m → m < N → (takenL fs).contains (List.replicate m ch) = true := fun m h1 h2 => by
    rw [List.contains_iff_mem]
    exact (taken_places fs _).2 (hN.taken m h1 h2)
  have HL := Lib.hid hl
  have HV := Lib.hid hv
  have HF := Lib.hid hf
  have HK := Lib.hid hk
  have HN := Lib.hid hN
  have HAL := Lib.hid hal
  have HFR := Lib.hid hfree
  have HTK := Lib.hid htk
  clear hv hf hk hl hN hal hfree htk
  go_enter Tryz.func7, Tryz.ntmps7
  go_wp2_with fail
  refine (rKind_any like _ hs).mono ?_
  rintro e w1 ⟨rfl, hb1⟩
  rw [HK.out]
  dsimp only
  have HB1 := Lib.hid hb1
  have HV1 := Lib.hid (HV.out.later hb1)
  clear hb1
  go_wp2_with fail
  refine (rTaken_any fs _ _ HF.out HV1.out).mono ?_
  rintro e w2 ⟨v2, rfl, hown, hb2⟩
  have hS := strs_own hown rfl
  obtain ⟨a2, c2, rfl, _⟩ := id hS
  have HB2 := Lib.hid (Below.next HB1.out (Nat.le_refl _) hb2)
  have HS := Lib.hid hS
  clear hS hown hb2 HB1 HV1
  obtain ⟨zs, hzs⟩ : ∃ zs, takenL fs = zs := ⟨_, rfl⟩
  rw [hzs] at HS HFR HTK hN3 hN1
  rw [hzs]
  clear hzs
  have h1 := one_size like
  have HE := Lib.hid (ext_head1 like ch t HL.out)
  dsimp only
  go_wp2
  go_loopg [8, 9] N (fun g s8 s9 wr => ∃ (i : Nat) (s : ByteArray), s8 = .string s ∧ s9 = .int .i64 i ∧ i + 2 ≤ N ∧ N - i ≤ g ∧ Hid (s.data.toList = List.replicate (i + 1) ch) ∧ Hid (Below w.heap.size w wr) ∧ Hid (StrsAt wr (.slice a2 zs.length c2) zs))
  case atStart => exact ⟨0, _, rfl, rfl, hN2, Nat.le_refl _, HE, HB2, HS⟩
  case round =>
    obtain ⟨i, s, rfl, rfl, hi, hg, hs7, hB, hS⟩ := hrel
    clear HB2 HS HE
    have hsz : s.size = i + 1 := rep_size s (i + 1) ch hs7.out
    have hsz2 : s.size ≤ 30000000 := by omega
    have HSZ := Lib.hid hsz
    clear hsz
    have hadd : ∀ W : World, (Op.stringOp .add s (like.extract 0 1)).run Tryz.prog W = .ok (.string (s ++ like.extract 0 1)) W := fun W => run_string_add_sum W _ _ (by omega)
    have hr := rep_add s like (i + 1) ch t hs7.out HL.out
    have hsz4 : (s ++ like.extract 0 1).size ≤ 140737488351232 := by rw [ByteArray.size_append]; omega
    have HSZ4 := Lib.hid hsz4
    have HR := Lib.hid hr
    clear hr hsz4
    have hiz : (i : Int) ≤ (zs.length : Int) + 2 := by omega
    go_wp2_with fail
    refine (rAlike_any (s ++ like.extract 0 1) like _ HSZ4.out hs).mono ?_
    rintro e w4 ⟨rfl, hb4⟩
    rw [HR.out, HAL.out (i + 1 + 1) (by omega)]
    have HB4 := Lib.hid (Below.next hB.out (Nat.le_refl _) hb4)
    have HS4 := Lib.hid (hS.out.later hb4)
    clear hb4 hB hS
    dsimp only
    go_wp2_with fail
    by_cases hit : i + 2 = N
    · refine (in_to false zs _ _ _ HS4.out (by omega) (by rw [HR.out, show i + 1 + 1 = N by omega]; exact HFR.out)).mono ?_
      rintro e w5 ⟨rfl, rfl⟩
      clear hadd
      have HIT := Lib.hid hit
      clear hit
      dsimp only
      go_wp2
      go_ret2
      refine ⟨List.replicate N ch, true, .inr (.inr (.inl ⟨HK.out, rfl, ch, t, N, HL.out, HN.out, rfl⟩)), ?_, HB4.out⟩
      rw [← str_list (s ++ like.extract 0 1) (List.replicate N ch) (by rw [HR.out, show i + 1 + 1 = N from HIT.out])]
      rfl
    · refine (in_to true zs _ _ _ HS4.out (by omega) (by rw [HR.out]; exact HTK.out (i + 1 + 1) (by omega) (by omega))).mono ?_
      rintro e w5 ⟨rfl, rfl⟩
      clear hadd
      dsimp only
      go_wp2
      go_roundg (N - (i + 1))
      case measure => omega
      case rel => exact ⟨i + 1, _, rfl, by go_num, by omega, Nat.le_refl _, HR, HB4, HS4⟩

theorem rfresh_any (fs : List Fil) (v : Value) (s : ByteArray) (w : World) (hf : Few fs) (hv : FilesAt w v fs) (hs : s.size ≤ 140737488351232) :
    Calls Tryz.prog 7 #[.string s, v] w fun e w' => ∃ r b, FreshIs fs s.data.toList r b ∧ e = .returned (.tuple #[strV r, .bool b]) ∧ Below w.heap.size w w' := by
  by_cases h6 : kindL s.data.toList = 6
  · exact rfresh_word fs v s w hf hv hs h6
  by_cases h7 : kindL s.data.toList = 7
  · exact rfresh_cap fs v s w hf hv hs h7
  by_cases h9 : kindL s.data.toList = 9
  · exact rfresh_sign fs v s w hf hv hs h9
  · exact rfresh_none fs v s w hv hs h6 h7 h9
end Go.Proofs.YtbbibngagdpdcaaGreatDoor

namespace Go.Proofs.YtbbibngagdpdcaaGreatDoor
open Go Go.RowKit
open Go.Shelf
open Go.ChangeMaps Go.MapKept

theorem plc_flat_get (ts : List Plc) (i : Nat) (h : i < ts.length) (j : Nat) (hj : j < 2) : (ts.flatMap placeCells)[i * 2 + j]? = (placeCells ts[i])[j]? := by
  induction ts generalizing i with
  | nil => simp at h
  | cons t r ih =>
    cases i with
    | zero =>
      rw [List.flatMap_cons, List.getElem?_append_left (by simp [placeCells]; omega)]
      simp
    | succ i =>
      rw [List.flatMap_cons, List.getElem?_append_right (by simp [placeCells]; omega)]
      simp only [List.getElem_cons_succ]
      rw [← ih i (by simpa using h), show (i + 1) * 2 + j - (placeCells t).length = i * 2 + j by simp [placeCells]; omega]

theorem plc_flat_len (ts : List Plc) : (ts.flatMap placeCells).length = ts.length * 2 := by
  induction ts with
  | nil => rfl
  | cons t r ih => rw [List.flatMap_cons, List.length_append, ih]; simp [placeCells]; omega

/-- A ROW OF PLACES: each place's two cells. -/
theorem plc_cells {w : World} {base n : Nat} {a : Option Addr} {c : Nat} {ps : List Plc} (h : w.ownsRow base 32 2 (.slice a n c) n (ps.flatMap placeCells)) (hn : n = ps.length) (i : Nat) (hi : i < ps.length) :
    ∃ g, a = some ⟨g, 0, none⟩ ∧ g < w.heap.size ∧ w.cell? ⟨g, i * 2, none⟩ = some (.int .i64 (ps[i].1 : Nat)) ∧ w.cell? ⟨g, i * 2 + 1, none⟩ = some (.int .i64 (ps[i].2 : Nat)) := by
  subst hn
  rcases h.2 with ⟨he, h0⟩ | ⟨g, cap, cur, he, hb, hg, _⟩
  · omega
  · cases he
    have hl := plc_flat_len ps
    refine ⟨g, rfl, (Array.getElem?_eq_some_iff.1 hg).1, ?_, ?_⟩
    · rw [h.cellAt (i * 2) (by omega)]; exact plc_flat_get ps i hi 0 (by omega)
    · rw [h.cellAt (i * 2 + 1) (by omega)]; exact plc_flat_get ps i hi 1 (by omega)

theorem placesFrom_len (x : List UInt8) (fs : List Fil) (h : ∀ f ∈ fs, f.2.size ≤ 100000) : ∀ i, (placesFrom x i fs).length ≤ 100001 * fs.length := by
  induction fs with
  | nil => intro i; simp [placesFrom]
  | cons f r ih =>
    intro i
    have h1 := ih (fun g hg => h g (by simp [hg])) (i + 1)
    have h2 := placesIn_len i f.2.data.toList x (namesL f.2.data.toList)
    have h3 := names_len f.2.data.toList
    have h4 : f.2.data.toList.length = f.2.size := by simp
    have h5 := h f (by simp)
    rw [placesFrom, List.length_append, List.length_cons]
    omega

theorem places_few (x : List UInt8) (fs : List Fil) (h : Few fs) : (getP (spellL fs) x).length ≤ 20000000 := by
  have h1 := placesFrom_len x fs h.long 0
  have h2 := h.many
  rw [getP_places]
  omega

/-- WHAT spell.Free GIVES, BY KIND. -/
theorem free_named {fs : List Fil} {l : List UInt8} (h : namedB (kindL l) = true) : freeL fs l = (((getP (spellL fs) l).length : Int) == 0) := by
  rw [freeL, alike_self, h, Bool.true_and]
  cases getP (spellL fs) l with
  | nil => rfl
  | cons a r =>
    simp only [List.isEmpty_cons, List.length_cons]
    symm
    rw [beq_eq_false_iff_ne]
    omega

theorem free_not {fs : List Fil} {l : List UInt8} (h : namedB (kindL l) = false) : freeL fs l = false := by
  rw [freeL, alike_self, h, Bool.false_and]

end Go.Proofs.YtbbibngagdpdcaaGreatDoor
