/-
  PROVED HERE: a part of the proof of the card 'SpellTellsCardSaid': what functions of the program, or of the document's packages, that SpellTells reaches compute (texts E0, E1). CONDITIONS: each theorem's own.
-/
import Derived.Test.YtbbibngagdpdcaaGreatDoorM13
namespace Go.Proofs.YtbbibngagdpdcaaGreatDoor
open Go Go.RowKit
open Go.Shelf

theorem in_to (r : Bool) (zs : List (List UInt8)) (v : Value) (x : ByteArray) (w : World) (h : StrsAt w v zs) (hbig : zs.length ≤ 140737488351232) (hx : zs.contains x.data.toList = r) :
    Calls Tryz.prog 22 #[v, .string x] w fun e w' => e = .returned (.bool r) ∧ w = w' := by
  obtain ⟨a, c, rfl, h⟩ := h
  have H := Lib.hid h
  have HX := Lib.hid hx
  clear h hx
  go_enter Tryz.func22, Tryz.ntmps22
  go_wp2
  go_loopg [5] zs.length (fun g s5 wr => ∃ i : Nat, s5 = .int .i64 i ∧ i ≤ zs.length ∧ zs.length - i ≤ g ∧ wr = w ∧ Hid (x.data.toList ∉ zs.take i))
  case atStart => exact ⟨0, rfl, Nat.zero_le _, Nat.le_refl _, rfl, by simp [Hid]⟩
  case round =>
    obtain ⟨i, rfl, hi, hg, rfl, hn⟩ := hrel
    by_cases hlt : i < zs.length
    · rcases H.out with h0 | ⟨b, off, ha, hb, hc⟩
      · subst h0; simp at hlt
      subst ha
      have hci := hc i hlt
      obtain ⟨l, hl⟩ : ∃ l, zs[i] = l := ⟨_, rfl⟩
      rw [show zs.getD i [] = l by simp [List.getD, List.getElem?_eq_getElem hlt, hl]] at hci
      unfold strV at hci
      clear hc
      by_cases he : l = x.data.toList
      · have hex : (⟨l.toArray⟩ : ByteArray) = x := by rw [he]
        rw [hex] at hci
        have hr : r = true := by
          rw [← HX.out, ← he, ← hl]
          simp
        have HR := Lib.hid hr
        clear hex hr
        have HE := Lib.hid he
        have HL := Lib.hid hl
        clear he hl
        go_wp2
        go_ret
        exact ⟨ret_bool HR.out.symm, rfl⟩
      · have hne : (l == x.toList) = false := by rw [beq_eq_false_iff_ne, Lib.toList_data]; exact he
        have hn2 : Hid (x.data.toList ∉ zs.take (i + 1)) := by
          rw [Hid, List.take_succ_eq_append_getElem hlt, hl]
          simp only [List.mem_append, List.mem_singleton, not_or]
          exact ⟨hn.out, fun e => he e.symm⟩
        have HL := Lib.hid hl
        clear hn hl he
        go_wp2
        go_roundg (zs.length - (i + 1))
        case measure => omega
        case rel => exact ⟨i + 1, by go_num, by omega, Nat.le_refl _, rfl, hn2⟩
    · have hr : r = false := by
        rw [← HX.out]
        have := hn.out
        rw [List.take_of_length_le (by omega)] at this
        simpa [List.contains_iff_mem] using this
      have HR := Lib.hid hr
      clear hr
      go_wp2
      go_ret
      exact ⟨ret_bool HR.out.symm, rfl⟩

set_option maxHeartbeats 1000000 in
theorem texts_any (zs ys : List (List UInt8)) (v u : Value) (w : World) (h : StrsAt w v zs) (h' : StrsAt w u ys) (hbig : zs.length ≤ 140737488351232) (hbig' : ys.length ≤ 140737488351232) :
    Calls Tryz.prog 11 #[v, u] w fun e w' => e = .returned (.bool (decide (zs = ys))) ∧ Below w.heap.size w w' := by
  obtain ⟨a, c, rfl, h⟩ := h
  obtain ⟨a', c', rfl, h'⟩ := h'
  have H := Lib.hid h
  have H' := Lib.hid h'
  clear h h'
  go_enter Tryz.func11, Tryz.ntmps11
  by_cases hlen : zs.length = ys.length
  · rw [← hlen]
    have HL := Lib.hid hlen
    clear hlen hbig'
    go_wp2
    go_loopg [5] zs.length (fun g s5 wr => ∃ i q : Nat, s5 = .int .i64 i ∧ i ≤ zs.length ∧ zs.length - i ≤ g ∧ wr = w.drewN q ∧ Hid (zs.take i = ys.take i))
    case atStart => exact ⟨0, 0, rfl, Nat.zero_le _, Nat.le_refl _, rfl, rfl⟩
    case round =>
      obtain ⟨i, q, rfl, hi, hg, rfl, hn⟩ := hrel
      by_cases hlt : i < zs.length
      · have hlt' : i < ys.length := by rw [← HL.out]; exact hlt
        rcases H.out with h0 | ⟨b, off, ha, hb, hc⟩
        · subst h0; simp at hlt
        rcases H'.out with h0' | ⟨b', off', ha', hb', hc'⟩
        · subst h0'; simp at hlt'
        subst ha ha'
        have hci := hc i hlt
        have hci' := hc' i hlt'
        obtain ⟨l, hl⟩ : ∃ l, zs[i] = l := ⟨_, rfl⟩
        obtain ⟨l', hl'⟩ : ∃ l, ys[i] = l := ⟨_, rfl⟩
        rw [show zs.getD i [] = l by simp [List.getD, List.getElem?_eq_getElem hlt, hl]] at hci
        rw [show ys.getD i [] = l' by simp [List.getD, List.getElem?_eq_getElem hlt', hl']] at hci'
        unfold strV at hci hci'
        have hli : (i : Int) < (zs.length : Int) := by omega
        clear hc hc'
        have HZ := Lib.hid hl
        have HZ' := Lib.hid hl'
        clear hl hl'
        by_cases he : l = l'
        · subst he
          have hn2 : Hid (zs.take (i + 1) = ys.take (i + 1)) := by
            rw [Hid, List.take_succ_eq_append_getElem hlt, List.take_succ_eq_append_getElem hlt', HZ.out, HZ'.out, hn.out]
          clear hn
          go_wp2
          go_quiet (fail)
          go_wp2
          go_roundg (zs.length - (i + 1))
          case measure => omega
          case rel => exact ⟨i + 1, _, by go_num, by omega, Nat.le_refl _, rfl, hn2⟩
        · have hne : (l == l') = false := beq_eq_false_iff_ne.2 he
          have hf : Hid (decide (zs = ys) = false) := by
            rw [Hid, decide_eq_false_iff_not]
            rintro rfl
            exact he (HZ.out.symm.trans HZ'.out)
          clear hn he
          go_wp2
          go_quiet (fail)
          go_wp2
          go_ret
          exact ⟨ret_bool hf.out.symm, below_draws (below_draw0 _ _) _⟩
      · have hr : Hid (decide (zs = ys) = true) := by
          rw [Hid, decide_eq_true_eq]
          have := hn.out
          rw [List.take_of_length_le (by omega), List.take_of_length_le (by have := HL.out; omega)] at this
          exact this
        go_wp2
        go_ret
        exact ⟨ret_bool hr.out.symm, below_draw0 _ _⟩
  · have hf : Hid (decide (zs = ys) = false) := by
      rw [Hid, decide_eq_false_iff_not]
      rintro rfl
      exact hlen rfl
    go_wp2
    go_ret
    exact ⟨ret_bool hf.out.symm, Below.refl _ _⟩
end Go.Proofs.YtbbibngagdpdcaaGreatDoor

namespace Go.Proofs.YtbbibngagdpdcaaGreatDoor
open Go Go.RowKit
open Go.Shelf

def fileWeight (f : Fil) : Nat := min f.2.size 5000 + min f.1.size 5000
def weight (fs : List Fil) : Nat := (fs.map fileWeight).sum
/-- WHAT orielref10.Few GIVES. -/
def fewB (fs : List Fil) : Bool := decide (fs.length ≤ 4) && decide (weight (fs.take 5) ≤ 1500)

theorem weight_snoc (fs : List Fil) (i : Nat) (h : i < fs.length) : weight (fs.take (i + 1)) = weight (fs.take i) + fileWeight fs[i] := by
  rw [List.take_succ_eq_append_getElem h, weight, List.map_append, List.sum_append]
  simp [weight]

theorem weight_le (fs : List Fil) : weight fs ≤ 10000 * fs.length := by
  induction fs with
  | nil => simp [weight]
  | cons f r ih =>
    have : weight (f :: r) = fileWeight f + weight r := by simp [weight]
    have h2 : fileWeight f ≤ 10000 := by unfold fileWeight; omega
    simp only [List.length_cons]
    omega

theorem few_of (fs : List Fil) (h : fewB fs = true) : Few fs := by
  simp only [fewB, Bool.and_eq_true, decide_eq_true_eq] at h
  obtain ⟨h1, h2⟩ := h
  rw [List.take_of_length_le (by omega)] at h2
  refine ⟨by omega, fun f hf => ?_⟩
  have h3 : fileWeight f ≤ weight fs := by
    clear h1 h2
    induction fs with
    | nil => simp at hf
    | cons g r ih =>
      have : weight (g :: r) = fileWeight g + weight r := by simp [weight]
      rcases List.mem_cons.1 hf with rfl | hf
      · omega
      · have := ih hf; omega
  unfold fileWeight at h3
  omega

set_option maxHeartbeats 1000000 in
theorem few_any (fs : List Fil) (v : Value) (w : World) (hv : FilesAt w v fs) (hbig : fs.length ≤ 9223372036854775807) (hs : ∀ f ∈ fs, f.1.size ≤ 9223372036854775807 ∧ f.2.size ≤ 9223372036854775807) :
    Calls Tryz.prog 4 #[v] w fun e w' => e = .returned (.bool (fewB fs)) ∧ Below w.heap.size w w' := by
  obtain ⟨a, c, rfl, hv⟩ := hv
  have HV := Lib.hid hv
  have HS := Lib.hid hs
  clear hv hs
  go_enter Tryz.func4, Tryz.ntmps4
  go_wp2
  go_loopg [3, 4] fs.length (fun g s3 s4 wr => ∃ i n : Nat, s3 = .int .i64 n ∧ s4 = .int .i64 i ∧ i ≤ fs.length ∧ i ≤ 5 ∧ n ≤ 10000 * i ∧ fs.length - i ≤ g ∧ Hid (n = weight (fs.take i)) ∧ Hid (Below w.heap.size w wr))
  case atStart => exact ⟨0, 0, rfl, rfl, Nat.zero_le _, Nat.zero_le _, Nat.le_refl _, Nat.le_refl _, by simp [Hid, weight], Below.refl _ _⟩
  case round =>
    obtain ⟨i, n, rfl, rfl, hi, hi5, hn, hg, hw, hB⟩ := hrel
    by_cases hlt : i < fs.length
    · by_cases h4 : i ≤ 4
      · rcases HV.out with h0 | ⟨b, off, ha, hb, hc⟩
        · subst h0; simp at hlt
        subst ha
        obtain ⟨f, hfi⟩ : ∃ f, fs[i] = f := ⟨_, rfl⟩
        obtain ⟨c0, c1⟩ := hc i f (by rw [List.getElem?_eq_getElem hlt, hfi])
        have e0 := (hB.out.cell (p := ⟨b, off + i * 2, none⟩) hb).trans c0
        have e1 := (hB.out.cell (p := ⟨b, off + i * 2 + 1, none⟩) hb).trans c1
        obtain ⟨z1, z2⟩ := HS.out f (by rw [← hfi]; exact List.getElem_mem _)
        have hwn : Hid (n + fileWeight f = weight (fs.take (i + 1))) := by
          rw [Hid, weight_snoc fs i hlt, hfi, hw.out]
        clear c0 c1 hc hfi hw
        have hli : (i : Int) < (fs.length : Int) := by omega
        have hl4 : (i : Int) ≤ 4 := by omega
        have m1 : (if (5000 : Int) < (f.2.size : Int) then 5000 else (f.2.size : Int)) = ((min f.2.size 5000 : Nat) : Int) := by split <;> omega
        have m2 : (if (5000 : Int) < (f.1.size : Int) then 5000 else (f.1.size : Int)) = ((min f.1.size 5000 : Nat) : Int) := by split <;> omega
        go_wp2
        go_quiet (fail)
        have HM1 := Lib.hid m1
        have HM2 := Lib.hid m2
        clear m1 m2 e0 e1
        go_wp2
        go_roundg (fs.length - (i + 1))
        case measure => omega
        case rel =>
          refine ⟨i + 1, n + fileWeight f, ?_, by go_num, by omega, by omega, ?_, Nat.le_refl _, hwn, Below.next hB.out (Nat.le_refl _) (below_draw0 _ _)⟩
          · exact congrArg (Value.int .i64) (by unfold fileWeight; omega)
          · unfold fileWeight; omega
      · obtain rfl : i = 5 := by omega
        have hr : Hid (fewB fs = false) := by
          rw [Hid, fewB, decide_eq_false (by omega), Bool.false_and]
        have h4' : ¬ ((fs.length : Int) ≤ 4) := by omega
        go_wp2
        go_ret
        exact ⟨ret_bool hr.out.symm, hB.out⟩
    · obtain rfl : i = fs.length := by omega
      have hr : Hid (fewB fs = (decide (fs.length ≤ 4) && decide (n ≤ 1500))) := by
        rw [Hid, fewB, hw.out, List.take_of_length_le (by omega), List.take_of_length_le (Nat.le_refl _)]
      clear hw
      by_cases h4 : fs.length ≤ 4
      · have h4' : (fs.length : Int) ≤ 4 := by omega
        go_wp2
        all_goals
          go_ret
          refine ⟨ret_bool ?_, hB.out⟩
          rw [hr.out, decide_eq_true h4, Bool.true_and]
          simp
          try omega
      · have h4' : ¬ ((fs.length : Int) ≤ 4) := by omega
        go_wp2
        go_ret
        refine ⟨ret_bool ?_, hB.out⟩
        rw [hr.out, decide_eq_false h4, Bool.false_and]
end Go.Proofs.YtbbibngagdpdcaaGreatDoor
