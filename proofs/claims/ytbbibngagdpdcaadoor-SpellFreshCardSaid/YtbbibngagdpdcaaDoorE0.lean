import Derived.Test.YtbbibngagdpdcaaDoorD6
namespace Go.Proofs.YtbbibngagdpdcaaDoor
open Go Go.RowKit
open Go.Shelf

theorem in_to (r : Bool) (zs : List (List UInt8)) (v : Value) (x : ByteArray) (w : World) (h : StrsAt w v zs) (hbig : zs.length ≤ 140737488351232) (hx : zs.contains x.data.toList = r) :
    Calls Tryd.prog 11 #[v, .string x] w fun e w' => e = .returned (.bool r) ∧ w = w' := by
  obtain ⟨a, c, rfl, h⟩ := h
  have H := Lib.hid h
  have HX := Lib.hid hx
  clear h hx
  go_enter Tryd.func11, Tryd.ntmps11
  go_wp2
  go_loopg [5] zs.length (fun g s5 wr => ∃ i : Nat, s5 = .int .i64 i ∧ i ≤ zs.length ∧ zs.length - i ≤ g ∧ wr = w ∧ Hid (x.data.toList ∉ zs.take i))
  case atStart => exact ⟨0, rfl, Nat.zero_le _, Nat.le_refl _, rfl, by simp [Hid]⟩
  case round =>
    obtain ⟨i, rfl, hi, hg, rfl, hn⟩ := hrel
    by_cases hlt : i < zs.length
    · rcases H.out with h0 | ⟨b, off, ha, hb, hc⟩
      · subst h0; simp at hlt
      subst ha
      have hci := hc i hlt
      obtain ⟨l, hl⟩ : ∃ l, zs[i] = l := ⟨_, rfl⟩
      rw [show zs.getD i [] = l by simp [List.getD, List.getElem?_eq_getElem hlt, hl]] at hci
      unfold strV at hci
      clear hc
      by_cases he : l = x.data.toList
      · have hex : (⟨l.toArray⟩ : ByteArray) = x := by rw [he]
        rw [hex] at hci
        have hr : r = true := by
          rw [← HX.out, ← he, ← hl]
          simp
        have HR := Lib.hid hr
        clear hex hr
        have HE := Lib.hid he
        have HL := Lib.hid hl
        clear he hl
        go_wp2
        go_ret
        exact ⟨ret_bool HR.out.symm, rfl⟩
      · have hne : (l == x.toList) = false := by rw [beq_eq_false_iff_ne, Lib.toList_data]; exact he
        have hn2 : Hid (x.data.toList ∉ zs.take (i + 1)) := by
          rw [Hid, List.take_succ_eq_append_getElem hlt, hl]
          simp only [List.mem_append, List.mem_singleton, not_or]
          exact ⟨hn.out, fun e => he e.symm⟩
        have HL := Lib.hid hl
        clear hn hl he
        go_wp2
        go_roundg (zs.length - (i + 1))
        case measure => omega
        case rel => exact ⟨i + 1, by go_num, by omega, Nat.le_refl _, rfl, hn2⟩
    · have hr : r = false := by
        rw [← HX.out]
        have := hn.out
        rw [List.take_of_length_le (by omega)] at this
        simpa [List.contains_iff_mem] using this
      have HR := Lib.hid hr
      clear hr
      go_wp2
      go_ret
      exact ⟨ret_bool HR.out.symm, rfl⟩

set_option maxHeartbeats 1000000 in
theorem texts_any (zs ys : List (List UInt8)) (v u : Value) (w : World) (h : StrsAt w v zs) (h' : StrsAt w u ys) (hbig : zs.length ≤ 140737488351232) (hbig' : ys.length ≤ 140737488351232) :
    Calls Tryd.prog 13 #[v, u] w fun e w' => e = .returned (.bool (decide (zs = ys))) ∧ Below w.heap.size w w' := by
  obtain ⟨a, c, rfl, h⟩ := h
  obtain ⟨a', c', rfl, h'⟩ := h'
  have H := Lib.hid h
  have H' := Lib.hid h'
  clear h h'
  go_enter Tryd.func13, Tryd.ntmps13
  by_cases hlen : zs.length = ys.length
  · rw [← hlen]
    have HL := Lib.hid hlen
    clear hlen hbig'
    go_wp2
    go_loopg [5] zs.length (fun g s5 wr => ∃ i q : Nat, s5 = .int .i64 i ∧ i ≤ zs.length ∧ zs.length - i ≤ g ∧ wr = w.drewN q ∧ Hid (zs.take i = ys.take i))
    case atStart => exact ⟨0, 0, rfl, Nat.zero_le _, Nat.le_refl _, rfl, rfl⟩
    case round =>
      obtain ⟨i, q, rfl, hi, hg, rfl, hn⟩ := hrel
      by_cases hlt : i < zs.length
      · have hlt' : i < ys.length := by rw [← HL.out]; exact hlt
        rcases H.out with h0 | ⟨b, off, ha, hb, hc⟩
        · subst h0; simp at hlt
        rcases H'.out with h0' | ⟨b', off', ha', hb', hc'⟩
        · subst h0'; simp at hlt'
        subst ha ha'
        have hci := hc i hlt
        have hci' := hc' i hlt'
        obtain ⟨l, hl⟩ : ∃ l, zs[i] = l := ⟨_, rfl⟩
        obtain ⟨l', hl'⟩ : ∃ l, ys[i] = l := ⟨_, rfl⟩
        rw [show zs.getD i [] = l by simp [List.getD, List.getElem?_eq_getElem hlt, hl]] at hci
        rw [show ys.getD i [] = l' by simp [List.getD, List.getElem?_eq_getElem hlt', hl']] at hci'
        unfold strV at hci hci'
        have hli : (i : Int) < (zs.length : Int) := by omega
        clear hc hc'
        have HZ := Lib.hid hl
        have HZ' := Lib.hid hl'
        clear hl hl'
        by_cases he : l = l'
        · subst he
          have hn2 : Hid (zs.take (i + 1) = ys.take (i + 1)) := by
            rw [Hid, List.take_succ_eq_append_getElem hlt, List.take_succ_eq_append_getElem hlt', HZ.out, HZ'.out, hn.out]
          clear hn
          go_wp2
          go_quiet (fail)
          go_wp2
          go_roundg (zs.length - (i + 1))
          case measure => omega
          case rel => exact ⟨i + 1, _, by go_num, by omega, Nat.le_refl _, rfl, hn2⟩
        · have hne : (l == l') = false := beq_eq_false_iff_ne.2 he
          have hf : Hid (decide (zs = ys) = false) := by
            rw [Hid, decide_eq_false_iff_not]
            rintro rfl
            exact he (HZ.out.symm.trans HZ'.out)
          clear hn he
          go_wp2
          go_quiet (fail)
          go_wp2
          go_ret
          exact ⟨ret_bool hf.out.symm, below_draws (below_draw0 _ _) _⟩
      · have hr : Hid (decide (zs = ys) = true) := by
          rw [Hid, decide_eq_true_eq]
          have := hn.out
          rw [List.take_of_length_le (by omega), List.take_of_length_le (by have := HL.out; omega)] at this
          exact this
        go_wp2
        go_ret
        exact ⟨ret_bool hr.out.symm, below_draw0 _ _⟩
  · have hf : Hid (decide (zs = ys) = false) := by
      rw [Hid, decide_eq_false_iff_not]
      rintro rfl
      exact hlen rfl
    go_wp2
    go_ret
    exact ⟨ret_bool hf.out.symm, Below.refl _ _⟩
end Go.Proofs.YtbbibngagdpdcaaDoor
