/-
  PROVED HERE: a part of the proof of the card 'SpellTellsCardSaid': what functions of the program, or of the document's packages, that SpellTells reaches compute (texts G9, H0). CONDITIONS: each theorem's own.
-/
import Derived.Test.YtbbibngagdpdcaaGreatDoorM21
namespace Go.Proofs.YtbbibngagdpdcaaGreatDoor
open Go Go.RowKit
open Go.Shelf

theorem rest_of_digit {c : Int} (h : digitB c = true) : restB c = true := by simp [restB, h]

theorem run_whole (D : List UInt8) : allB digitB (D.take (runL restB D)) = !decide (runL digitB D < runL restB D) := by
  induction D with
  | nil => rfl
  | cons b r ih =>
    unfold runL
    by_cases hr : restB b.toNat = true
    · rw [if_pos hr]
      have e : allB digitB ((b :: r).take (runL restB r + 1)) = (digitB b.toNat && allB digitB (r.take (runL restB r))) := by
        unfold allB
        rw [List.take_succ_cons, List.all_cons]
      rw [e, ih]
      by_cases hd : digitB b.toNat = true
      · rw [if_pos hd, hd, Bool.true_and]
        congr 1
        rw [decide_eq_decide]
        omega
      · rw [if_neg hd, Bool.eq_false_iff.2 hd, Bool.false_and]
        simp
    · have hd : ¬ digitB b.toNat = true := fun h => hr (rest_of_digit h)
      rw [if_neg hr, if_neg hd]
      rfl

theorem kind_digit (c : UInt8) (t : List UInt8) (h : digitB c.toNat = true) : kindL (c :: t) = 0 := by
  have h' : ∀ c : UInt8, digitB c.toNat = true → (!signB c.toNat && !smallB c.toNat && !greatB c.toNat && !decide (c = 39) && !(c == 61 || c == 124 || c == 58 || c == 45 || ([40, 41, 44, 46, 59, 95] : List UInt8).contains c)) = true := all_bytes (by decide +kernel)
  have h2 := h' c h
  simp only [Bool.and_eq_true, Bool.not_eq_true', Bool.or_eq_false_iff, beq_eq_false_iff_ne] at h2
  obtain ⟨⟨⟨⟨f1, f2⟩, f3⟩, f4⟩, ⟨⟨⟨⟨a1, a2⟩, a3⟩, a4⟩, a5⟩⟩ := h2
  have hone : oneMark (c :: t) = false := by
    cases t with
    | nil => exact a5
    | cons d u => exact oneMark_short _ (by simp)
  have hmk : markB (c :: t) = false := by
    rw [markB, hone, Bool.or_false]
    unfold reservedB
    have d : ∀ (a : UInt8) (u : List UInt8), c ≠ a → decide (c :: t = a :: u) = false := fun a u hne => decide_eq_false (fun e => hne (by injection e))
    rw [d 61 [] a1, d 61 [62] a1, d 124 [] a2, d 58 [] a3, d 58 [62] a3, d 45 [62] a4]
    rfl
  rw [kindL, if_neg (by simp), hmk, if_neg (by decide), kindRest.eq_def]
  dsimp only
  rw [f1, f2, f3, f4]
  simp

theorem run_pos_cons (p : Int → Bool) (c : UInt8) (t : List UInt8) (h : p c.toNat = true) : runL p (c :: t) = runL p t + 1 := by
  rw [runL, if_pos h]

theorem drop_at (s : ByteArray) (k : Nat) (h : k < s.size) : s.data.toList.drop k = s[k] :: s.data.toList.drop (k + 1) := by
  rw [List.drop_eq_getElem_cons (by simpa using h)]
  rfl

theorem piece (s : ByteArray) (k n : Nat) : (s.extract k (k + n)).data.toList = (s.data.toList.drop k).take n := by
  rw [Lib.extract_data, show k + n - k = n by omega]

theorem endOr_neg {R : Int} (h : R < 0) : endOr R = 0 := if_pos h
theorem endOr_pos {R : Int} (h : ¬ R < 0) : endOr R = R := if_neg h

theorem eq34 {c : UInt8} (h : ((c.toNat : Int) == 34) = true) : c = 34 := by
  have := byte_test c 34
  have n1 : ((34 : UInt8).toNat : Int) = 34 := rfl
  rw [n1, h] at this
  exact (beq_iff_eq.1 this.symm).symm

theorem line_fun : (fun c : Int => !decide (c = 10)) = lineB := rfl

/-- orielref05.Next IS THE SAME AS THE PROGRAM's TOKEN. -/
theorem rNext_any (s : ByteArray) (k0 : Nat) (w : World) (hs : s.size ≤ 140737488351232) (hk0 : k0 < s.size) :
    Calls Tryz.prog 60 #[.string s, .int .i64 k0] w fun e w' => e = .returned (.agg #[.int .i64 (tok s.data.toList k0).1, .int .i64 k0, .int .i64 ((tok s.data.toList k0).2 : Nat)]) ∧ Below w.heap.size w w' := by
  have hlen : s.data.toList.length = s.size := by simp
  have hbd := tok_bounds s.data.toList k0 (by omega)
  have hD := drop_at s k0 hk0
  unfold tok at hbd ⊢
  rw [hD] at hbd ⊢
  dsimp only at hbd ⊢
  rw [← hD] at hbd ⊢
  by_cases hb : blankB s[k0].toNat = true
  · rw [if_pos hb]
    exact rNext_blank s k0 _ w hs hk0 hb rfl
  rw [if_neg hb] at hbd ⊢
  have hb' : blankB s[k0].toNat = false := Bool.eq_false_iff.2 hb
  by_cases hp : Lib.hasPrefix (s.data.toList.drop k0) [40, 42] = true
  · rw [if_pos hp] at hbd ⊢
    by_cases hn : noteEnd s.data.toList k0 < 0
    · rw [if_pos hn, hlen]
      exact rNext_note s k0 0 w hs hk0 hb' hp (endOr_neg hn) 3 s.size (.inl ⟨Int.le_refl _, rfl, rfl⟩)
    · rw [if_neg hn] at hbd ⊢
      dsimp only at hbd ⊢
      exact rNext_note s k0 _ w hs hk0 hb' hp (endOr_pos hn) 2 _ (.inr ⟨by omega, rfl, by omega⟩)
  rw [if_neg hp] at hbd ⊢
  have hp' : Lib.hasPrefix (s.data.toList.drop k0) [40, 42] = false := Bool.eq_false_iff.2 hp
  by_cases h34 : ((s[k0].toNat : Int) == 34) = true
  · rw [if_pos h34] at hbd ⊢
    by_cases hn : textGo (s.data.toList.drop (k0 + 1)) (k0 + 1) < 0
    · rw [if_pos hn, line_fun]
      exact rNext_text s k0 _ 0 w hs hk0 (eq34 h34) (endOr_neg hn) rfl 3 _ (.inl ⟨Int.le_refl _, rfl, rfl⟩)
    · rw [if_neg hn] at hbd ⊢
      dsimp only at hbd ⊢
      exact rNext_text s k0 _ _ w hs hk0 (eq34 h34) (endOr_pos hn) rfl 5 _ (.inr ⟨by omega, rfl, by omega⟩)
  rw [if_neg h34]
  have h34' : ((s[k0].toNat : Int) == 34) = false := Bool.eq_false_iff.2 h34
  have h40 : restB s[k0].toNat = true ∨ signB s[k0].toNat = true → ((s[k0].toNat : Int) == 40) = false := by
    intro h
    have h' : ∀ c : UInt8, (restB c.toNat || signB c.toNat) = true → ((c.toNat : Int) == 40) = false := all_bytes (by decide +kernel)
    exact h' _ (by simpa using h)
  by_cases hd : digitB s[k0].toNat = true
  · rw [if_pos hd]
    have hr := rest_of_digit hd
    have hw : wholeB s k0 (k0 + runL restB (s.data.toList.drop k0)) = !decide (runL digitB (s.data.toList.drop k0) < runL restB (s.data.toList.drop k0)) := by
      rw [← run_whole, wholeB, Nat.add_sub_cancel_left]
    have hk : kindL (s.extract k0 (k0 + runL restB (s.data.toList.drop k0))).data.toList = 0 := by
      rw [piece, hD, run_pos_cons restB _ _ hr, List.take_succ_cons]
      exact kind_digit _ _ hd
    by_cases hlt : runL digitB (s.data.toList.drop k0) < runL restB (s.data.toList.drop k0)
    · rw [if_pos hlt]
      exact rNext_rest s k0 _ 0 3 w hs hk0 hb' (h40 (.inl hr)) h34' hr rfl hk (by rw [hw, decide_eq_true hlt]; rfl)
    · rw [if_neg hlt]
      exact rNext_rest s k0 _ 0 4 w hs hk0 hb' (h40 (.inl hr)) h34' hr rfl hk (by rw [hw, decide_eq_false hlt]; rfl)
  rw [if_neg hd]
  by_cases hg : signB s[k0].toNat = true
  · rw [if_pos hg]
    have hr : restB s[k0].toNat = false := by
      have h' : ∀ c : UInt8, signB c.toNat = true → restB c.toNat = false := all_bytes (by decide +kernel)
      exact h' _ hg
    exact rNext_sign s k0 _ _ _ w hs hk0 hb' (h40 (.inr hg)) h34' hr hg rfl (by rw [piece]) rfl
  rw [if_neg hg]
  have hg' : signB s[k0].toNat = false := Bool.eq_false_iff.2 hg
  by_cases hr : restB s[k0].toNat = true
  · rw [if_pos hr]
    have hw : wholeB s k0 (k0 + runL restB (s.data.toList.drop k0)) = false := by
      rw [wholeB, Nat.add_sub_cancel_left, hD, run_pos_cons restB _ _ hr, List.take_succ_cons]
      unfold allB
      rw [List.all_cons, Bool.eq_false_iff.2 hd, Bool.false_and]
    exact rNext_rest s k0 _ _ _ w hs hk0 hb' (h40 (.inl hr)) h34' hr rfl (by rw [piece]) (by rw [hw]; rfl)
  · rw [if_neg hr]
    have hr' : restB s[k0].toNat = false := Bool.eq_false_iff.2 hr
    have hk : kindL (s.extract k0 (k0 + 1)).data.toList = kindL [s[k0]] := by
      rw [piece, hD]; rfl
    exact rNext_other s k0 _ _ _ w hs hk0 hb' hp' h34' hr' hg' rfl hk rfl
end Go.Proofs.YtbbibngagdpdcaaGreatDoor

namespace Go.Proofs.YtbbibngagdpdcaaGreatDoor
open Go Go.RowKit
open Go.Shelf

set_option maxHeartbeats 4000000 in
set_option maxRecDepth 100000 in
theorem rScan_any (s : ByteArray) (w : World) (hs : s.size ≤ 4000000000) :
    Calls Tryz.prog 47 #[.string s] w fun e w' => ∃ v, e = .returned v ∧ w'.ownsRow w.heap.size 51 3 v (scanL s.data.toList).length ((scanL s.data.toList).flatMap tokCells) ∧ Below w.heap.size w w' := by
  obtain ⟨i0, hi, hz0, hz1, hz2⟩ := info_parts Tryz.infoTok
  obtain ⟨L, hL⟩ : ∃ L, scanL s.data.toList = L := ⟨_, rfl⟩
  have HL := Lib.hid hL
  rw [hL]
  clear hL
  go_enter Tryz.func47, Tryz.ntmps47
  go_wp2
  go_loopg [3, 4, 5] (s.size + 1) (fun g s3 s4 s5 wr => ∃ (k i f : Nat) (pre : List Tok), s4 = .int .i64 k ∧ s5 = .int .i64 i ∧ k ≤ s.size ∧ i ≤ k ∧ s.size - k < g ∧ s.size - k < f ∧ pre.length ≤ k ∧ Hid (wr.ownsRow w.heap.size 51 3 s3 pre.length (pre.flatMap tokCells)) ∧ Hid (Below w.heap.size w wr) ∧ Hid (pre ++ scanGo f s.data.toList k = L))
  case atStart => exact ⟨0, 0, s.size + 1, [], rfl, rfl, Nat.zero_le _, Nat.le_refl _, by omega, by omega, Nat.le_refl _, World.ownsRow_nil _ _ _ _, Below.refl _ _, HL.out⟩
  case round =>
    obtain ⟨k, i, f, pre, rfl, rfl, hk, hik, hg, hf, hpl, hO, hB, hP⟩ := hrel
    clear HL
    obtain ⟨f', rfl⟩ : ∃ f', f = f' + 1 := ⟨f - 1, by omega⟩
    have hlen : s.data.toList.length = s.size := by simp
    by_cases hlt : k < s.size
    · have hbd := tok_bounds s.data.toList k (by omega)
      obtain ⟨K, hK⟩ : ∃ K, (tok s.data.toList k).1 = K := ⟨_, rfl⟩
      obtain ⟨E, hE⟩ : ∃ E, (tok s.data.toList k).2 = E := ⟨_, rfl⟩
      have hnext := rNext_any s k
      have hp := hP.out
      rw [scanGo, if_pos (by omega)] at hp
      rw [hK, hE] at hp hnext
      rw [hE] at hbd
      have HP := Lib.hid hp
      have HN := Lib.hid hnext
      obtain ⟨hb1, hb2⟩ := hbd
      have hb2' : E ≤ s.size := by omega
      have hkz : (k : Int) < (s.size : Int) := by omega
      have hiz : (i : Int) ≤ (s.size : Int) := by omega
      clear hK hE hp hnext hlen hb2 hP
      go_wp2_with fail
      refine (HN.out wr (by omega) hlt).mono ?_
      rintro e w2 ⟨rfl, hb⟩
      have hO2 := Lib.hid (own_later hO.out hb)
      have hB2 := Lib.hid (Below.next hB.out (Nat.le_refl _) hb)
      clear hO hB hb
      dsimp only
      go_wp2_with (at_builtin; refine wpList_append_own _ rfl (.tmp 22) (.tmp 24) 48 rfl w.heap.size 51 i0 (.agg #[.int .i64 0, .int .i64 0, .int .i64 0]) 3 24 Tryz.underlying48 hi hz0 hz1 hz2 rfl (by decide) _ _ _ rfl ((hO2.out.alloc (.cells #[.int .i64 K, .int .i64 (k : Nat), .int .i64 (E : Nat)] 51)).alloc (.cells #[.int .i64 K, .int .i64 (k : Nat), .int .i64 (E : Nat)] 51)) ⟨w2.heap.size + 1, 0, none⟩ 1 1 (tokCells (K, k, E)) rfl rfl ?p1 ?p2 ?p3 ?p4 ?p5 ?_)
      case p1 =>
        intro j u hj
        have e : ((⟨w2.heap.size + 1, 0, none⟩ : Addr).add j) = ⟨w2.heap.size + 1, j, none⟩ := by unfold Addr.add; split <;> simp_all
        rw [e, new_cell _ _ _ _ _ (by simp)]
        match j, hj with
        | 0, hj | 1, hj | 2, hj => simpa [tokCells] using hj
      case p2 =>
        intro u hu
        simp [tokCells] at hu
        rcases hu with rfl | rfl | rfl <;> rfl
      case p3 => unfold maxLen; omega
      case p4 => omega
      case p5 => have := hB2.out.size; simp; omega
      intro v' w3 hown' hgrow _
      have ht3 : w3.heap[w2.heap.size]? = some (.cells #[.int .i64 K, .int .i64 (k : Nat), .int .i64 (E : Nat)] 51 (0, 0)) := by
        rw [hgrow.block _ (by simp; omega) (fun e => by have := (hO2.out.lt _ e.symm).2; omega)]
        exact (Below.heap_alloc _ _ _ (by simp)).trans (heap_alloc_new w2 _)
      have d2 : w3.cell? ⟨w2.heap.size, 2, none⟩ = some (.int .i64 (E : Nat)) := by rw [cell_of_row _ _ _ _ _ _ ht3]; rfl
      have hO3 : Hid (w3.ownsRow w.heap.size 51 3 v' (pre ++ [(K, k, E)]).length ((pre ++ [(K, k, E)]).flatMap tokCells)) := by
        rw [Hid, List.length_append, List.flatMap_append]
        simpa using hown'
      have hB3 : Hid (Below w.heap.size w w3) := ((hB2.out.alloc hB2.out.size _).alloc (by have := hB2.out.size; simp; omega) _).grown hgrow (by have := hB2.out.size; simp; omega) (fun b hb => (hO2.out.lt _ hb).1)
      clear hown' hgrow hO2 hB2 ht3
      go_wp2
      go_roundg (s.size + 1 - E)
      case measure => omega
      case rel => exact ⟨E, i + 1, f', pre ++ [(K, k, E)], rfl, by go_num, hb2', by omega, by omega, by omega, by simp; omega, hO3, hB3, by show _ = _; rw [List.append_assoc]; exact HP.out⟩
    · have hp := hP.out
      rw [scanGo, if_neg (by omega), hlen] at hp
      have HP := Lib.hid hp
      have hkz : ¬ (k : Int) < (s.size : Int) := by omega
      have hiz : (i : Int) ≤ (s.size : Int) := by omega
      clear hp hlen hP
      go_wp2_with (at_builtin; refine wpList_append_own _ rfl (.tmp 28) (.tmp 34) 48 rfl w.heap.size 51 i0 (.agg #[.int .i64 0, .int .i64 0, .int .i64 0]) 3 24 Tryz.underlying48 hi hz0 hz1 hz2 rfl (by decide) _ _ _ rfl (hO.out.alloc _) ⟨wr.heap.size, 0, none⟩ 1 1 (tokCells (0, s.size, s.size)) rfl rfl ?q1 ?q2 ?q3 ?q4 ?q5 ?_)
      case q1 =>
        intro j u hj
        have e : ((⟨wr.heap.size, 0, none⟩ : Addr).add j) = ⟨wr.heap.size, j, none⟩ := by unfold Addr.add; split <;> simp_all
        first
          | (rw [e, new_cell _ _ _ _ _ rfl]; exact hj)
          | exact hj
          | (simpa [tokCells] using hj)
      case q2 =>
        intro u hu
        simp [tokCells] at hu
        rcases hu with rfl | rfl | rfl <;> rfl
      case q3 => unfold maxLen; omega
      case q4 => omega
      case q5 => have := hB.out.size; simp; omega
      intro v' w3 hown' hgrow _
      have hB3 : Hid (Below w.heap.size w w3) := (hB.out.alloc hB.out.size _).grown hgrow (by have := hB.out.size; simp; omega) (fun b hb => (hO.out.lt _ hb).1)
      have hO3 : Hid (w3.ownsRow w.heap.size 51 3 v' (pre ++ [(0, s.size, s.size)]).length ((pre ++ [(0, s.size, s.size)]).flatMap tokCells)) := by
        rw [Hid, List.length_append, List.flatMap_append]
        simpa using hown'
      clear hown' hgrow hO hB
      go_wp2
      go_ret
      refine ⟨_, rfl, ?_, hB3.out⟩
      have := hO3.out
      rw [HP.out] at this
      exact this
end Go.Proofs.YtbbibngagdpdcaaGreatDoor
