import Derived.Test.YtbbibngagdpdcaaDoorC0
namespace Go.Proofs.YtbbibngagdpdcaaDoor
open Go Go.RowKit
open Go.Shelf

/-- IS A TOKEN A NAME? -/
def namedB (K : Int) : Bool := !((K != 6 && K != 7) && K != 9)

theorem names1_any (K a e : Int) (w : World) : Calls Tryd.prog 43 #[.agg #[.int .i64 K, .int .i64 a, .int .i64 e]] w fun e w' => e = .returned (.bool (!namedB K)) ∧ Below w.heap.size w w' := by
  go_enter Tryd.func43, Tryd.ntmps43
  go_wp2
  all_goals
    go_ret
    refine ⟨ret_bool ?_, (Below.refl _ w).alloc (Nat.le_refl _) _⟩
    simp [namedB, *]

/-- WHERE THE FIRST TOKEN STANDS THAT IS NO NAME. -/
def dropAt : List Tok → Nat
  | [] => 0
  | t :: r => if namedB t.1 then dropAt r + 1 else 0

theorem flat_get (ts : List Tok) (i : Nat) (h : i < ts.length) (j : Nat) (hj : j < 3) : (ts.flatMap tokCells)[i * 3 + j]? = (tokCells ts[i])[j]? := by
  induction ts generalizing i with
  | nil => simp at h
  | cons t r ih =>
    cases i with
    | zero =>
      rw [List.flatMap_cons, List.getElem?_append_left (by simp [tokCells]; omega)]
      simp
    | succ i =>
      rw [List.flatMap_cons, List.getElem?_append_right (by simp [tokCells]; omega)]
      simp only [List.getElem_cons_succ]
      rw [← ih i (by simpa using h), show (i + 1) * 3 + j - (tokCells t).length = i * 3 + j by simp [tokCells]; omega]

/-- A ROW OF TOKENS: each token's three cells. -/
theorem tok_cells {w : World} {base g cap : Nat} {ts : List Tok} (h : w.ownsRow base 54 3 (.slice (some ⟨g, 0, none⟩) ts.length cap) ts.length (ts.flatMap tokCells)) (i : Nat) (hi : i < ts.length) :
    w.cell? ⟨g, i * 3, none⟩ = some (.int .i64 ts[i].1) ∧ w.cell? ⟨g, i * 3 + 1, none⟩ = some (.int .i64 (ts[i].2.1 : Nat)) ∧ w.cell? ⟨g, i * 3 + 2, none⟩ = some (.int .i64 (ts[i].2.2 : Nat)) := by
  refine ⟨?_, ?_, ?_⟩
  · rw [h.cellAt (i * 3) (by omega)]; exact flat_get ts i hi 0 (by omega)
  · rw [h.cellAt (i * 3 + 1) (by omega)]; exact flat_get ts i hi 1 (by omega)
  · rw [h.cellAt (i * 3 + 2) (by omega)]; exact flat_get ts i hi 2 (by omega)

theorem own_later {w w' : World} {base : Nat} {e : TypeId} {size : Nat} {v : Value} {n : Nat} {xs : List Value} (h : w.ownsRow base e size v n xs) (hb : Below w.heap.size w w') : w'.ownsRow base e size v n xs :=
  h.kept (grown_of_below hb none) (by cases v.ownBlock <;> simp)

theorem dropAt_get (ts : List Tok) : ∀ k (hk : k < ts.length), (k < dropAt ts → namedB ts[k].1 = true) ∧ (k = dropAt ts → namedB ts[k].1 = false) := by
  induction ts with
  | nil => intro k hk; simp at hk
  | cons t r ih =>
    intro k hk
    unfold dropAt
    cases ht : namedB t.1 with
    | true =>
      rw [if_pos rfl]
      cases k with
      | zero => exact ⟨fun _ => ht, fun h => by omega⟩
      | succ k =>
        have hk' : k < r.length := by simpa using hk
        exact ⟨fun h => (ih k hk').1 (by omega), fun h => (ih k hk').2 (by omega)⟩
    | false =>
      rw [if_neg (by decide)]
      exact ⟨fun h => by omega, fun h => by subst h; exact ht⟩

theorem names1_to (r : Bool) (K a e : Int) (w : World) (h : namedB K = !r) : Calls Tryd.prog 43 #[.agg #[.int .i64 K, .int .i64 a, .int .i64 e]] w fun e w' => e = .returned (.bool r) ∧ Below w.heap.size w w' := by
  have := names1_any K a e w
  rw [h, Bool.not_not] at this
  exact this

set_option maxHeartbeats 1000000 in
theorem index_any (base g cap : Nat) (ts : List Tok) (w : World) (hbig : ts.length ≤ 5000000000) (ho : w.ownsRow base 54 3 (.slice (some ⟨g, 0, none⟩) ts.length cap) ts.length (ts.flatMap tokCells)) (hd : dropAt ts < ts.length) :
    Calls Tryd.prog 52 #[.slice (some ⟨g, 0, none⟩) ts.length cap, .func (.func 43) #[] #[]] w fun e w' => e = .returned (.int .i64 (dropAt ts : Nat)) ∧ Below w.heap.size w w' := by
  have HO := Lib.hid ho
  clear ho
  obtain ⟨D, hD⟩ : ∃ D, dropAt ts = D := ⟨_, rfl⟩
  rw [hD] at hd ⊢
  have HD := Lib.hid hD
  clear hD
  go_enter Tryd.func52, Tryd.ntmps52
  go_wp2
  go_loopg [8] ts.length (fun g8 s8 wr => ∃ k : Nat, s8 = .int .i64 k ∧ k ≤ D ∧ ts.length - k ≤ g8 ∧ Hid (Below w.heap.size w wr))
  case atStart => exact ⟨0, rfl, Nat.zero_le _, Nat.le_refl _, Below.refl _ _⟩
  case round =>
    obtain ⟨k, rfl, hk, hg, hB⟩ := hrel
    have hkl : k < ts.length := by omega
    obtain ⟨e0, e1, e2⟩ := tok_cells (own_later HO.out hB.out) k hkl
    by_cases hkd : k < D
    · have hn : namedB ts[k].1 = !false := (dropAt_get ts k hkl).1 (by rw [HD.out]; exact hkd)
      have HN := Lib.hid hn
      clear hn
      go_wp2_with (go_at_call 43; refine (names1_to false _ _ _ _ HN.out).mono ?_; rintro e w1 ⟨rfl, hb1⟩)
      go_roundg (ts.length - (k + 1))
      case measure => omega
      case rel => exact ⟨k + 1, by go_num, by omega, Nat.le_refl _, Below.next hB.out (Nat.le_refl _) hb1⟩
    · obtain rfl : k = D := by omega
      have hn : namedB ts[k].1 = !true := (dropAt_get ts k hkl).2 HD.out.symm
      have HN := Lib.hid hn
      clear hn
      go_wp2_with (go_at_call 43; refine (names1_to true _ _ _ _ HN.out).mono ?_; rintro e w1 ⟨rfl, hb1⟩)
      go_ret
      exact ⟨rfl, Below.next hB.out (Nat.le_refl _) hb1⟩
end Go.Proofs.YtbbibngagdpdcaaDoor
