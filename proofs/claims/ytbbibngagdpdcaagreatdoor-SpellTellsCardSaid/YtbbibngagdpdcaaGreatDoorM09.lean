/-
  PROVED HERE: a part of the proof of the card 'SpellTellsCardSaid': what functions of the program, or of the document's packages, that SpellTells reaches compute (texts C0, C1). CONDITIONS: each theorem's own.
-/
import Derived.Test.YtbbibngagdpdcaaGreatDoorM08
namespace Go.Proofs.YtbbibngagdpdcaaGreatDoor
open Go Go.RowKit
open Go.Shelf

/-- A TOKEN: its kind, its place, its end. -/
abbrev Tok := Int × Nat × Nat
def tokCells (t : Tok) : List Value := [.int .i64 t.1, .int .i64 (t.2.1 : Nat), .int .i64 (t.2.2 : Nat)]

/-- WHAT lex.Scan GIVES, from place k on. -/
def scanGo : Nat → List UInt8 → Nat → List Tok
  | 0, _, _ => []
  | f + 1, l, k => if k < l.length then ((tok l k).1, k, (tok l k).2) :: scanGo f l (tok l k).2 else [(0, l.length, l.length)]

def scanL (l : List UInt8) : List Tok := scanGo (l.length + 1) l 0

theorem Tryz.infoTok : (Tryz.prog.info? 51).map (fun i => (i.zero, i.size, i.bytes)) = some (some (.agg #[.int .i64 0, .int .i64 0, .int .i64 0]), 3, 24) := by kernel_rfl

theorem grown_of_below {a w : World} (h : Below a.heap.size a w) (row : Option Nat) : a.grownBy w row := ⟨h.os, h.tape, h.output, h.size, fun i hi _ => h.block i hi⟩

theorem flat_len (ts : List Tok) : (ts.flatMap tokCells).length = ts.length * 3 := by
  induction ts with
  | nil => rfl
  | cons t r ih => simp only [List.flatMap_cons, List.length_append, ih, List.length_cons, tokCells, List.length_nil]; omega

/-- WHAT THE LOOP OF lex.Scan KEEPS: the cursor's block, the tokens so far. -/
structure ScanInv (w wr : World) (s : ByteArray) (k : Nat) (v : Value) (pre : List Tok) : Prop where
  cur : wr.heap[w.heap.size]? = some (.cells #[.string s, .int .i64 (k : Nat)] 82 (0, 0))
  own : wr.ownsRow (w.heap.size + 1) 51 3 v pre.length (pre.flatMap tokCells)
  below : Below w.heap.size w wr

theorem ScanInv.cursor {w wr : World} {s : ByteArray} {k : Nat} {v : Value} {pre : List Tok} (h : ScanInv w wr s k v pre) : Cur wr w.heap.size s k :=
  ⟨(Array.getElem?_eq_some_iff.1 h.cur).1, by rw [cell_of_row _ _ _ _ _ _ h.cur]; rfl, by rw [cell_of_row _ _ _ _ _ _ h.cur]; rfl⟩

theorem ScanInv.later {w wr w2 : World} {s : ByteArray} {k : Nat} {v : Value} {pre : List Tok} (h : ScanInv w wr s k v pre) (hb : Below wr.heap.size wr w2) : ScanInv w w2 s k v pre :=
  ⟨(hb.block _ h.cursor.lt).trans h.cur, h.own.kept (grown_of_below hb none) (by cases v.ownBlock <;> simp), Below.next h.below (Nat.le_refl _) hb⟩

theorem ScanInv.fresh {w wr : World} {s : ByteArray} {k : Nat} {v : Value} {pre : List Tok} (h : ScanInv w wr s k v pre) (o : Obj) : ScanInv w (wr.alloc o) s k v pre :=
  h.later ((Below.refl _ _).alloc (Nat.le_refl _) _)

theorem ScanInv.notFrozen {w wr : World} {s : ByteArray} {k : Nat} {v : Value} {pre : List Tok} (h : ScanInv w wr s k v pre) (j : Nat) : wr.frozen? ⟨w.heap.size, j, none⟩ = false := frozen_of_row _ _ _ _ _ h.cur

theorem ScanInv.appended {w wr w2 : World} {s : ByteArray} {k : Nat} {v v' : Value} {pre : List Tok} {t : Tok} (h : ScanInv w wr s k v pre) (hg : wr.grownBy w2 v.ownBlock)
    (hown : w2.ownsRow (w.heap.size + 1) 51 3 v' (pre.length + 1) (pre.flatMap tokCells ++ tokCells t)) : ScanInv w w2 s k v' (pre ++ [t]) := by
  refine ⟨?_, by simpa using hown, h.below.grown hg h.below.size (fun b hb => ?_)⟩
  · rw [hg.block _ h.cursor.lt (fun e => ?_)]
    · exact h.cur
    · have := (h.own.lt _ e.symm).1
      omega
  · have := (h.own.lt _ hb).1
    omega

theorem ScanInv.moved {w wr : World} {s : ByteArray} {k k' : Nat} {v : Value} {pre : List Tok} (h : ScanInv w wr s k v pre) : ScanInv w (wr.setCell ⟨w.heap.size, 1, none⟩ (.int .i64 (k' : Nat))) s k' v pre :=
  ⟨by rw [heap_setCell_same _ _ _ _ _ _ h.cur]; rfl, ownsRow_setCell_below h.own (by show w.heap.size < w.heap.size + 1; omega) _, h.below.setCell (Nat.le_refl _) _⟩

set_option maxHeartbeats 2000000 in
set_option maxRecDepth 100000 in
theorem scan_any (s : ByteArray) (w : World) (hs : s.size ≤ 4000000000) :
    Calls Tryz.prog 58 #[.string s] w fun e w' => ∃ v, e = .returned v ∧ w'.ownsRow (w.heap.size + 1) 51 3 v (scanL s.data.toList).length ((scanL s.data.toList).flatMap tokCells) ∧ Below w.heap.size w w' := by
  obtain ⟨i0, hi, hz0, hz1, hz2⟩ := info_parts Tryz.infoTok
  have hinv0 : ScanInv w (w.alloc (.cells #[.string s, .int .i64 0] 82)) s 0 (.slice none 0 0) [] :=
    ⟨heap_alloc_new w _, World.ownsRow_nil _ _ _ _, (Below.refl _ w).alloc (Nat.le_refl _) _⟩
  obtain ⟨L, hL⟩ : ∃ L, scanL s.data.toList = L := ⟨_, rfl⟩
  have HL := Lib.hid hL
  have HI := Lib.hid hinv0
  rw [hL]
  clear hL hinv0
  go_enter Tryz.func58, Tryz.ntmps58
  go_wp2
  go_loopg [3] (s.size + 1) (fun g s3 wr => ∃ (k f : Nat) (pre : List Tok), k ≤ s.size ∧ s.size - k < g ∧ s.size - k < f ∧ pre.length ≤ k ∧ Hid (ScanInv w wr s k s3 pre) ∧ Hid (pre ++ scanGo f s.data.toList k = L))
  case atStart => exact ⟨0, s.size + 1, [], Nat.zero_le _, by omega, by omega, Nat.le_refl _, HI, HL.out⟩
  case round =>
    obtain ⟨k, f, pre, hk, hg, hf, hpl, hI, hP⟩ := hrel
    clear HL HI
    obtain ⟨f', rfl⟩ : ∃ f', f = f' + 1 := ⟨f - 1, by omega⟩
    have hcur := hI.out.cursor
    have c0 := hcur.text
    have c1 := hcur.place
    clear hcur
    by_cases hlt : k < s.size
    · have hlen : s.data.toList.length = s.size := by simp
      have hbd := tok_bounds s.data.toList k (by omega)
      obtain ⟨K, hK⟩ : ∃ K, (tok s.data.toList k).1 = K := ⟨_, rfl⟩
      obtain ⟨E, hE⟩ : ∃ E, (tok s.data.toList k).2 = E := ⟨_, rfl⟩
      have hnext := next_any w.heap.size s k
      have hp := hP.out
      rw [scanGo, if_pos (by omega)] at hp
      rw [hK, hE] at hp hnext
      rw [hE] at hbd
      have HP := Lib.hid hp
      have HN := Lib.hid hnext
      obtain ⟨hb1, hb2⟩ := hbd
      have hb2' : E ≤ s.size := by omega
      clear hK hE hp hnext hlen hb2 hP
      go_wp2_with fail
      refine (HN.out _ hI.out.cursor hlt (by omega)).mono ?_
      rintro e w2 ⟨rfl, hb⟩
      have hI2 := Lib.hid (hI.out.later hb)
      have hcur := hI2.out.cursor
      have c0' := hcur.text
      have c1' := hcur.place
      clear hcur hI hb c0 c1
      dsimp only
      go_wp2_with (at_builtin; refine wpList_append_own _ rfl _ _ 48 rfl (w.heap.size + 1) 51 i0 (.agg #[.int .i64 0, .int .i64 0, .int .i64 0]) 3 24 Tryz.underlying48 hi hz0 hz1 hz2 rfl (by decide) _ _ _ rfl (hI2.out.own.alloc _) ⟨w2.heap.size, 0, none⟩ 1 1 (tokCells (K, k, E)) rfl rfl ?p1 ?p2 ?p3 ?p4 ?p5 ?_)
      case p1 =>
        intro j u hj
        have e : ((⟨w2.heap.size, 0, none⟩ : Addr).add j) = ⟨w2.heap.size, j, none⟩ := by unfold Addr.add; split <;> simp_all
        rw [e, new_cell _ _ _ _ _ rfl]
        match j, hj with
        | 0, hj | 1, hj | 2, hj => simpa [tokCells] using hj
      case p2 =>
        intro u hu
        simp [tokCells] at hu
        rcases hu with rfl | rfl | rfl <;> rfl
      case p3 => unfold maxLen; omega
      case p4 => omega
      case p5 => have := hI2.out.below.size; have := (Array.getElem?_eq_some_iff.1 hI2.out.cur).1; simp; omega
      intro v' w3 hown' hgrow _
      have hI3 := Lib.hid ((hI2.out.fresh _).appended hgrow hown')
      clear hown' hgrow hI2 c0' c1'
      have hcur := hI3.out.cursor
      have d0 := hcur.text
      have d1 := hcur.place
      have df := hI3.out.notFrozen 1
      clear hcur
      go_wp2
      go_roundg (s.size + 1 - E)
      case measure => omega
      case rel => exact ⟨E, f', pre ++ [(K, k, E)], hb2', by omega, by omega, by simp; omega, hI3.out.moved, by show _ = _; rw [List.append_assoc]; exact HP.out⟩
    · have hlen : s.data.toList.length = s.size := by simp
      have hp := hP.out
      rw [scanGo, if_neg (by omega), hlen] at hp
      have HP := Lib.hid hp
      clear hp hlen hP
      go_wp2_with (at_builtin; refine wpList_append_own _ rfl _ _ 48 rfl (w.heap.size + 1) 51 i0 (.agg #[.int .i64 0, .int .i64 0, .int .i64 0]) 3 24 Tryz.underlying48 hi hz0 hz1 hz2 rfl (by decide) _ _ _ rfl (hI.out.own.alloc _) ⟨wr.heap.size, 0, none⟩ 1 1 (tokCells (0, s.size, s.size)) rfl rfl ?q1 ?q2 ?q3 ?q4 ?q5 ?_)
      case q1 =>
        intro j u hj
        have e : ((⟨wr.heap.size, 0, none⟩ : Addr).add j) = ⟨wr.heap.size, j, none⟩ := by unfold Addr.add; split <;> simp_all
        rw [e, new_cell _ _ _ _ _ rfl]
        match j, hj with
        | 0, hj | 1, hj | 2, hj => simpa [tokCells] using hj
      case q2 =>
        intro u hu
        simp [tokCells] at hu
        rcases hu with rfl | rfl | rfl <;> rfl
      case q3 => unfold maxLen; omega
      case q4 => omega
      case q5 => have := hI.out.below.size; have := (Array.getElem?_eq_some_iff.1 hI.out.cur).1; simp; omega
      intro v' w3 hown' hgrow _
      have hI3 := Lib.hid ((hI.out.fresh _).appended hgrow hown')
      clear hown' hgrow hI c0 c1
      go_wp2
      go_ret
      refine ⟨_, rfl, ?_, hI3.out.below⟩
      have := hI3.out.own
      rw [HP.out] at this
      exact this
end Go.Proofs.YtbbibngagdpdcaaGreatDoor

namespace Go.Proofs.YtbbibngagdpdcaaGreatDoor
open Go Go.RowKit
open Go.Shelf

/-- IS A TOKEN A NAME? -/
def namedB (K : Int) : Bool := !((K != 6 && K != 7) && K != 9)

theorem names1_any (K a e : Int) (w : World) : Calls Tryz.prog 59 #[.agg #[.int .i64 K, .int .i64 a, .int .i64 e]] w fun e w' => e = .returned (.bool (!namedB K)) ∧ Below w.heap.size w w' := by
  go_enter Tryz.func59, Tryz.ntmps59
  go_wp2
  all_goals
    go_ret
    refine ⟨ret_bool ?_, (Below.refl _ w).alloc (Nat.le_refl _) _⟩
    simp [namedB, *]

/-- WHERE THE FIRST TOKEN STANDS THAT IS NO NAME. -/
def dropAt : List Tok → Nat
  | [] => 0
  | t :: r => if namedB t.1 then dropAt r + 1 else 0

theorem flat_get (ts : List Tok) (i : Nat) (h : i < ts.length) (j : Nat) (hj : j < 3) : (ts.flatMap tokCells)[i * 3 + j]? = (tokCells ts[i])[j]? := by
  induction ts generalizing i with
  | nil => simp at h
  | cons t r ih =>
    cases i with
    | zero =>
      rw [List.flatMap_cons, List.getElem?_append_left (by simp [tokCells]; omega)]
      simp
    | succ i =>
      rw [List.flatMap_cons, List.getElem?_append_right (by simp [tokCells]; omega)]
      simp only [List.getElem_cons_succ]
      rw [← ih i (by simpa using h), show (i + 1) * 3 + j - (tokCells t).length = i * 3 + j by simp [tokCells]; omega]

/-- A ROW OF TOKENS: each token's three cells. -/
theorem tok_cells {w : World} {base g cap : Nat} {ts : List Tok} (h : w.ownsRow base 51 3 (.slice (some ⟨g, 0, none⟩) ts.length cap) ts.length (ts.flatMap tokCells)) (i : Nat) (hi : i < ts.length) :
    w.cell? ⟨g, i * 3, none⟩ = some (.int .i64 ts[i].1) ∧ w.cell? ⟨g, i * 3 + 1, none⟩ = some (.int .i64 (ts[i].2.1 : Nat)) ∧ w.cell? ⟨g, i * 3 + 2, none⟩ = some (.int .i64 (ts[i].2.2 : Nat)) := by
  refine ⟨?_, ?_, ?_⟩
  · rw [h.cellAt (i * 3) (by omega)]; exact flat_get ts i hi 0 (by omega)
  · rw [h.cellAt (i * 3 + 1) (by omega)]; exact flat_get ts i hi 1 (by omega)
  · rw [h.cellAt (i * 3 + 2) (by omega)]; exact flat_get ts i hi 2 (by omega)

theorem own_later {w w' : World} {base : Nat} {e : TypeId} {size : Nat} {v : Value} {n : Nat} {xs : List Value} (h : w.ownsRow base e size v n xs) (hb : Below w.heap.size w w') : w'.ownsRow base e size v n xs :=
  h.kept (grown_of_below hb none) (by cases v.ownBlock <;> simp)

theorem dropAt_get (ts : List Tok) : ∀ k (hk : k < ts.length), (k < dropAt ts → namedB ts[k].1 = true) ∧ (k = dropAt ts → namedB ts[k].1 = false) := by
  induction ts with
  | nil => intro k hk; simp at hk
  | cons t r ih =>
    intro k hk
    unfold dropAt
    cases ht : namedB t.1 with
    | true =>
      rw [if_pos rfl]
      cases k with
      | zero => exact ⟨fun _ => ht, fun h => by omega⟩
      | succ k =>
        have hk' : k < r.length := by simpa using hk
        exact ⟨fun h => (ih k hk').1 (by omega), fun h => (ih k hk').2 (by omega)⟩
    | false =>
      rw [if_neg (by decide)]
      exact ⟨fun h => by omega, fun h => by subst h; exact ht⟩

theorem names1_to (r : Bool) (K a e : Int) (w : World) (h : namedB K = !r) : Calls Tryz.prog 59 #[.agg #[.int .i64 K, .int .i64 a, .int .i64 e]] w fun e w' => e = .returned (.bool r) ∧ Below w.heap.size w w' := by
  have := names1_any K a e w
  rw [h, Bool.not_not] at this
  exact this

set_option maxHeartbeats 1000000 in
theorem index_any (base g cap : Nat) (ts : List Tok) (w : World) (hbig : ts.length ≤ 5000000000) (ho : w.ownsRow base 51 3 (.slice (some ⟨g, 0, none⟩) ts.length cap) ts.length (ts.flatMap tokCells)) (hd : dropAt ts < ts.length) :
    Calls Tryz.prog 69 #[.slice (some ⟨g, 0, none⟩) ts.length cap, .func (.func 59) #[] #[]] w fun e w' => e = .returned (.int .i64 (dropAt ts : Nat)) ∧ Below w.heap.size w w' := by
  have HO := Lib.hid ho
  clear ho
  obtain ⟨D, hD⟩ : ∃ D, dropAt ts = D := ⟨_, rfl⟩
  rw [hD] at hd ⊢
  have HD := Lib.hid hD
  clear hD
  go_enter Tryz.func69, Tryz.ntmps69
  go_wp2
  go_loopg [8] ts.length (fun g8 s8 wr => ∃ k : Nat, s8 = .int .i64 k ∧ k ≤ D ∧ ts.length - k ≤ g8 ∧ Hid (Below w.heap.size w wr))
  case atStart => exact ⟨0, rfl, Nat.zero_le _, Nat.le_refl _, Below.refl _ _⟩
  case round =>
    obtain ⟨k, rfl, hk, hg, hB⟩ := hrel
    have hkl : k < ts.length := by omega
    obtain ⟨e0, e1, e2⟩ := tok_cells (own_later HO.out hB.out) k hkl
    by_cases hkd : k < D
    · have hn : namedB ts[k].1 = !false := (dropAt_get ts k hkl).1 (by rw [HD.out]; exact hkd)
      have HN := Lib.hid hn
      clear hn
      go_wp2_with (go_at_call 59; refine (names1_to false _ _ _ _ HN.out).mono ?_; rintro e w1 ⟨rfl, hb1⟩)
      go_roundg (ts.length - (k + 1))
      case measure => omega
      case rel => exact ⟨k + 1, by go_num, by omega, Nat.le_refl _, Below.next hB.out (Nat.le_refl _) hb1⟩
    · obtain rfl : k = D := by omega
      have hn : namedB ts[k].1 = !true := (dropAt_get ts k hkl).2 HD.out.symm
      have HN := Lib.hid hn
      clear hn
      go_wp2_with (go_at_call 59; refine (names1_to true _ _ _ _ HN.out).mono ?_; rintro e w1 ⟨rfl, hb1⟩)
      go_ret
      exact ⟨rfl, Below.next hB.out (Nat.le_refl _) hb1⟩
end Go.Proofs.YtbbibngagdpdcaaGreatDoor
