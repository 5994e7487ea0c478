import Derived.Test.YtbbibngagdpdcaaDoorC2
namespace Go.Proofs.YtbbibngagdpdcaaDoor
open Go Go.RowKit
open Go.Shelf

def namedT (t : Tok) : Bool := namedB t.1
/-- WHAT lex.Names GIVES. -/
def namesL (l : List UInt8) : List Tok := (scanL l).filter namedT

structure DelInv (ts R : List Tok) (i j : Nat) : Prop where
  len : R.length = ts.length
  lt : i < j
  le : j ≤ ts.length
  head : R.take i = (ts.take j).filter namedT
  tail : R.drop j = ts.drop j

theorem tok_cells_n {w : World} {base g cap n : Nat} {ts : List Tok} (h : w.ownsRow base 54 3 (.slice (some ⟨g, 0, none⟩) n cap) n (ts.flatMap tokCells)) (hn : ts.length = n) (i : Nat) (hi : i < ts.length) :
    w.cell? ⟨g, i * 3, none⟩ = some (.int .i64 ts[i].1) ∧ w.cell? ⟨g, i * 3 + 1, none⟩ = some (.int .i64 (ts[i].2.1 : Nat)) ∧ w.cell? ⟨g, i * 3 + 2, none⟩ = some (.int .i64 (ts[i].2.2 : Nat)) := by
  subst hn
  exact tok_cells h i hi

theorem take_snoc (ts : List Tok) (j : Nat) (h : j < ts.length) : ts.take (j + 1) = ts.take j ++ [ts[j]] := by
  rw [List.take_succ_eq_append_getElem h]

theorem filter_take_dropAt (ts : List Tok) : ∀ (_ : dropAt ts < ts.length), ts.take (dropAt ts) = (ts.take (dropAt ts + 1)).filter namedT := by
  induction ts with
  | nil => intro h; simp at h
  | cons t r ih =>
    intro h
    unfold dropAt at h ⊢
    cases ht : namedB t.1 with
    | true =>
      rw [ht, if_pos rfl] at h
      rw [if_pos rfl, List.take_succ_cons, List.take_succ_cons, List.filter_cons, if_pos (by exact ht), ← ih (by simpa using h)]
    | false =>
      rw [if_neg (by decide)]
      simp [namedT, ht]

theorem DelInv.start (ts : List Tok) (h : dropAt ts < ts.length) : DelInv ts ts (dropAt ts) (dropAt ts + 1) :=
  ⟨rfl, by omega, by omega, filter_take_dropAt ts h, rfl⟩

theorem DelInv.drop {ts R : List Tok} {i j : Nat} (h : DelInv ts R i j) (hj : j < ts.length) (hn : namedB ts[j].1 = false) : DelInv ts R i (j + 1) :=
  ⟨h.len, by have := h.lt; omega, hj, by rw [h.head, take_snoc ts j hj, List.filter_append]; simp [namedT, hn], by have := congrArg (List.drop 1) h.tail; rwa [List.drop_drop, List.drop_drop] at this⟩

theorem DelInv.keep {ts R : List Tok} {i j : Nat} (h : DelInv ts R i j) (hj : j < ts.length) (hn : namedB ts[j].1 = true) : DelInv ts (R.set i ts[j]) (i + 1) (j + 1) := by
  have hi : i < R.length := by have := h.lt; have := h.len; omega
  refine ⟨by rw [List.length_set, h.len], by have := h.lt; omega, hj, ?_, ?_⟩
  · rw [take_snoc ts j hj, List.filter_append, ← h.head]
    have : (R.set i ts[j]).take (i + 1) = R.take i ++ [ts[j]] := by
      rw [List.take_succ_eq_append_getElem (by simpa using hi), List.getElem_set_self, List.take_set_of_le (Nat.le_refl _)]
    rw [this]
    simp [namedT, hn]
  · rw [List.drop_set_of_lt (by have := h.lt; omega)]
    have := congrArg (List.drop 1) h.tail
    rwa [List.drop_drop, List.drop_drop] at this

theorem DelInv.get {ts R : List Tok} {i j : Nat} (h : DelInv ts R i j) (hj : j < ts.length) : R[j]'(by rw [h.len]; exact hj) = ts[j] := by
  have h1 : R.drop j = R[j]'(by rw [h.len]; exact hj) :: R.drop (j + 1) := List.drop_eq_getElem_cons _
  have h2 : ts.drop j = ts[j] :: ts.drop (j + 1) := List.drop_eq_getElem_cons hj
  have := h.tail
  rw [h1, h2] at this
  exact (List.cons.inj this).1

theorem DelInv.done {ts R : List Tok} {i : Nat} (h : DelInv ts R i ts.length) : R.take i = ts.filter namedT := by
  rw [h.head, List.take_length]

structure DelW (w wr : World) (base g cap n : Nat) (R : List Tok) : Prop where
  own : wr.ownsRow base 54 3 (.slice (some ⟨g, 0, none⟩) n cap) n (R.flatMap tokCells)
  grown : w.grownBy wr (some g)

set_option maxHeartbeats 2000000 in
set_option maxRecDepth 100000 in
theorem delete_any (base g cap : Nat) (ts : List Tok) (w : World) (hbig : ts.length ≤ 5000000000) (ho : w.ownsRow base 54 3 (.slice (some ⟨g, 0, none⟩) ts.length cap) ts.length (ts.flatMap tokCells)) (hd : dropAt ts < ts.length) :
    Calls Tryd.prog 41 #[.slice (some ⟨g, 0, none⟩) ts.length cap, .func (.func 43) #[] #[]] w fun e w' =>
      e = .returned (.slice (some ⟨g, 0, none⟩) (ts.filter namedT).length cap) ∧ w'.ownsRow base 54 3 (.slice (some ⟨g, 0, none⟩) (ts.filter namedT).length cap) (ts.filter namedT).length ((ts.filter namedT).flatMap tokCells) ∧ w.grownBy w' (some g) := by
  have hcap : ts.length ≤ cap ∧ cap ≤ 9223372036854775807 := by
    rcases ho.2 with ⟨h', _⟩ | ⟨g', cap', cur, h', hb, hg, hnc, hcm, hcs, htake⟩
    · cases h'
    · simp only [Value.slice.injEq, Option.some.injEq, Addr.mk.injEq, and_true, true_and] at h'
      obtain ⟨rfl, rfl⟩ := h'
      exact ⟨hnc, hcm⟩
  obtain ⟨hc1, hc2⟩ := hcap
  have HO := Lib.hid ho
  have HI := Lib.hid (DelInv.start ts hd)
  clear ho
  go_enter Tryd.func41, Tryd.ntmps41
  go_wp2_with fail
  refine (index_any base g cap ts _ hbig HO.out hd).mono ?_
  rintro e w1 ⟨rfl, hb1⟩
  have HW : Hid (DelW w w1 base g cap ts.length ts) := ⟨own_later HO.out hb1, grown_of_below hb1 _⟩
  clear hb1 HO
  obtain ⟨D, hD⟩ : ∃ D, dropAt ts = D := ⟨_, rfl⟩
  rw [hD] at HI hd ⊢
  clear hD
  have hneg : ((D : Int) == -1) = false := by rw [beq_eq_false_iff_ne]; omega
  dsimp only
  go_wp2
  go_loopg [5, 6] ts.length (fun g8 s5 s6 wr => ∃ (i j : Nat) (R : List Tok), s5 = .int .i64 i ∧ s6 = .int .i64 j ∧ ts.length - j ≤ g8 ∧ i < j ∧ j ≤ ts.length ∧ Hid (DelInv ts R i j) ∧ Hid (DelW w wr base g cap ts.length R))
  case atStart => exact ⟨D, D + 1, ts, rfl, by go_num, by omega, by omega, by omega, HI, HW⟩
  case round =>
    obtain ⟨i, j, R, rfl, rfl, hg, hij, hj, hI, hW⟩ := hrel
    clear HI HW hneg
    by_cases hlt : j < ts.length
    · have hRl : j < R.length := by rw [hI.out.len]; exact hlt
      obtain ⟨e0, e1, e2⟩ := tok_cells_n hW.out.own hI.out.len j hRl
      obtain ⟨t, ht⟩ : ∃ t, ts[j] = t := ⟨_, rfl⟩
      rw [hI.out.get hlt, ht] at e0 e1 e2
      have hil : i < R.length := by omega
      have HRl := Lib.hid hI.out.len
      cases hn : namedB t.1 with
      | false =>
        have hI2 := Lib.hid (hI.out.drop hlt (by rw [ht]; exact hn))
        have HN : Hid (namedB t.1 = !true) := hn
        clear hn ht hI
        go_wp2_with (go_at_call 43; refine (names1_to true _ _ _ _ HN.out).mono ?_; rintro e w2 ⟨rfl, hb2⟩)
        have hb3 := Lib.hid (Below.next ((Below.refl _ wr).alloc (Nat.le_refl _) (.cells #[.int .i64 t.1, .int .i64 (t.2.1 : Nat), .int .i64 (t.2.2 : Nat)] 54)) (Nat.le_refl _) hb2)
        clear hb2
        go_roundg (ts.length - (j + 1))
        case measure => omega
        case rel => exact ⟨i, j + 1, R, rfl, by go_num, Nat.le_refl _, by omega, by omega, hI2, ⟨own_later hW.out.own hb3.out, hW.out.grown.trans (grown_of_below hb3.out _)⟩⟩
      | true =>
        have hI2 := Lib.hid (hI.out.keep hlt (by rw [ht]; exact hn))
        rw [ht] at hI2
        have HN : Hid (namedB t.1 = !false) := hn
        clear hn ht hI
        go_wp2_with fail
        refine (names1_to false _ _ _ _ HN.out).mono ?_
        rintro e w2 ⟨rfl, hb2⟩
        have f0 : w2.cell? ⟨wr.heap.size, 0, none⟩ = some (.int .i64 t.1) := (hb2.cell (p := ⟨wr.heap.size, 0, none⟩) (by simp)).trans (new_cell _ _ _ _ _ rfl)
        have f1 : w2.cell? ⟨wr.heap.size, 1, none⟩ = some (.int .i64 (t.2.1 : Nat)) := (hb2.cell (p := ⟨wr.heap.size, 1, none⟩) (by simp)).trans (new_cell _ _ _ _ _ rfl)
        have f2 : w2.cell? ⟨wr.heap.size, 2, none⟩ = some (.int .i64 (t.2.2 : Nat)) := (hb2.cell (p := ⟨wr.heap.size, 2, none⟩) (by simp)).trans (new_cell _ _ _ _ _ rfl)
        have hb3 := Lib.hid (Below.next ((Below.refl _ wr).alloc (Nat.le_refl _) (.cells #[.int .i64 t.1, .int .i64 (t.2.1 : Nat), .int .i64 (t.2.2 : Nat)] 54)) (Nat.le_refl _) hb2)
        have hW2 : Hid (DelW w w2 base g cap ts.length R) := ⟨own_later hW.out.own hb3.out, hW.out.grown.trans (grown_of_below hb3.out _)⟩
        obtain ⟨g0, g1, g2⟩ := tok_cells_n hW2.out.own HRl.out i hil
        have z0 := hW2.out.own.frozenAt (i * 3)
        have z1 := hW2.out.own.frozenAt (i * 3 + 1)
        have z2 := hW2.out.own.frozenAt (i * 3 + 2)
        clear hb2 hb3 hW e0 e1 e2
        dsimp only
        go_wp2
        go_roundg (ts.length - (j + 1))
        case measure => omega
        case rel => exact ⟨i + 1, j + 1, R.set i t, by go_num, by go_num, Nat.le_refl _, by omega, by omega, hI2, ⟨(own_set hW2.out.own i t hil).1, hW2.out.grown.trans (own_set hW2.out.own i t hil).2⟩⟩
    · obtain rfl : j = ts.length := by omega
      obtain ⟨w2, hrun, hown, hgr⟩ := clear_own (i := i) hW.out.own hI.out.len hij
      have hfin : Hid ((ts.filter namedT).length = i ∧ R.take i = ts.filter namedT) := by
        have := hI.out.done
        refine ⟨?_, this⟩
        rw [← this, List.length_take, hI.out.len]; omega
      have HN := Lib.hid (hown)
      have HG := Lib.hid (hW.out.grown.trans hgr)
      clear hown hgr hW hI
      go_wp2
      go_ret
      rw [hfin.out.1, ← hfin.out.2]
      exact ⟨rfl, HN.out, HG.out⟩
end Go.Proofs.YtbbibngagdpdcaaDoor
