import Derived.Test.YtbbibngagdpdcaaDoorB6
namespace Go.Proofs.YtbbibngagdpdcaaDoor
open Go Go.RowKit
open Go.Shelf

/-- A TOKEN: its kind, its place, its end. -/
abbrev Tok := Int × Nat × Nat
def tokCells (t : Tok) : List Value := [.int .i64 t.1, .int .i64 (t.2.1 : Nat), .int .i64 (t.2.2 : Nat)]

/-- WHAT lex.Scan GIVES, from place k on. -/
def scanGo : Nat → List UInt8 → Nat → List Tok
  | 0, _, _ => []
  | f + 1, l, k => if k < l.length then ((tok l k).1, k, (tok l k).2) :: scanGo f l (tok l k).2 else [(0, l.length, l.length)]

def scanL (l : List UInt8) : List Tok := scanGo (l.length + 1) l 0

theorem Tryd.infoTok : (Tryd.prog.info? 54).map (fun i => (i.zero, i.size, i.bytes)) = some (some (.agg #[.int .i64 0, .int .i64 0, .int .i64 0]), 3, 24) := by kernel_rfl

theorem grown_of_below {a w : World} (h : Below a.heap.size a w) (row : Option Nat) : a.grownBy w row := ⟨h.os, h.tape, h.output, h.size, fun i hi _ => h.block i hi⟩

theorem flat_len (ts : List Tok) : (ts.flatMap tokCells).length = ts.length * 3 := by
  induction ts with
  | nil => rfl
  | cons t r ih => simp only [List.flatMap_cons, List.length_append, ih, List.length_cons, tokCells, List.length_nil]; omega

/-- WHAT THE LOOP OF lex.Scan KEEPS: the cursor's block, the tokens so far. -/
structure ScanInv (w wr : World) (s : ByteArray) (k : Nat) (v : Value) (pre : List Tok) : Prop where
  cur : wr.heap[w.heap.size]? = some (.cells #[.string s, .int .i64 (k : Nat)] 77 (0, 0))
  own : wr.ownsRow (w.heap.size + 1) 54 3 v pre.length (pre.flatMap tokCells)
  below : Below w.heap.size w wr

theorem ScanInv.cursor {w wr : World} {s : ByteArray} {k : Nat} {v : Value} {pre : List Tok} (h : ScanInv w wr s k v pre) : Cur wr w.heap.size s k :=
  ⟨(Array.getElem?_eq_some_iff.1 h.cur).1, by rw [cell_of_row _ _ _ _ _ _ h.cur]; rfl, by rw [cell_of_row _ _ _ _ _ _ h.cur]; rfl⟩

theorem ScanInv.later {w wr w2 : World} {s : ByteArray} {k : Nat} {v : Value} {pre : List Tok} (h : ScanInv w wr s k v pre) (hb : Below wr.heap.size wr w2) : ScanInv w w2 s k v pre :=
  ⟨(hb.block _ h.cursor.lt).trans h.cur, h.own.kept (grown_of_below hb none) (by cases v.ownBlock <;> simp), Below.next h.below (Nat.le_refl _) hb⟩

theorem ScanInv.fresh {w wr : World} {s : ByteArray} {k : Nat} {v : Value} {pre : List Tok} (h : ScanInv w wr s k v pre) (o : Obj) : ScanInv w (wr.alloc o) s k v pre :=
  h.later ((Below.refl _ _).alloc (Nat.le_refl _) _)

theorem ScanInv.notFrozen {w wr : World} {s : ByteArray} {k : Nat} {v : Value} {pre : List Tok} (h : ScanInv w wr s k v pre) (j : Nat) : wr.frozen? ⟨w.heap.size, j, none⟩ = false := frozen_of_row _ _ _ _ _ h.cur

theorem ScanInv.appended {w wr w2 : World} {s : ByteArray} {k : Nat} {v v' : Value} {pre : List Tok} {t : Tok} (h : ScanInv w wr s k v pre) (hg : wr.grownBy w2 v.ownBlock)
    (hown : w2.ownsRow (w.heap.size + 1) 54 3 v' (pre.length + 1) (pre.flatMap tokCells ++ tokCells t)) : ScanInv w w2 s k v' (pre ++ [t]) := by
  refine ⟨?_, by simpa using hown, h.below.grown hg h.below.size (fun b hb => ?_)⟩
  · rw [hg.block _ h.cursor.lt (fun e => ?_)]
    · exact h.cur
    · have := (h.own.lt _ e.symm).1
      omega
  · have := (h.own.lt _ hb).1
    omega

theorem ScanInv.moved {w wr : World} {s : ByteArray} {k k' : Nat} {v : Value} {pre : List Tok} (h : ScanInv w wr s k v pre) : ScanInv w (wr.setCell ⟨w.heap.size, 1, none⟩ (.int .i64 (k' : Nat))) s k' v pre :=
  ⟨by rw [heap_setCell_same _ _ _ _ _ _ h.cur]; rfl, ownsRow_setCell_below h.own (by show w.heap.size < w.heap.size + 1; omega) _, h.below.setCell (Nat.le_refl _) _⟩

set_option maxHeartbeats 2000000 in
set_option maxRecDepth 100000 in
theorem scan_any (s : ByteArray) (w : World) (hs : s.size ≤ 4000000000) :
    Calls Tryd.prog 42 #[.string s] w fun e w' => ∃ v, e = .returned v ∧ w'.ownsRow (w.heap.size + 1) 54 3 v (scanL s.data.toList).length ((scanL s.data.toList).flatMap tokCells) ∧ Below w.heap.size w w' := by
  obtain ⟨i0, hi, hz0, hz1, hz2⟩ := info_parts Tryd.infoTok
  have hinv0 : ScanInv w (w.alloc (.cells #[.string s, .int .i64 0] 77)) s 0 (.slice none 0 0) [] :=
    ⟨heap_alloc_new w _, World.ownsRow_nil _ _ _ _, (Below.refl _ w).alloc (Nat.le_refl _) _⟩
  obtain ⟨L, hL⟩ : ∃ L, scanL s.data.toList = L := ⟨_, rfl⟩
  have HL := Lib.hid hL
  have HI := Lib.hid hinv0
  rw [hL]
  clear hL hinv0
  go_enter Tryd.func42, Tryd.ntmps42
  go_wp2
  go_loopg [3] (s.size + 1) (fun g s3 wr => ∃ (k f : Nat) (pre : List Tok), k ≤ s.size ∧ s.size - k < g ∧ s.size - k < f ∧ pre.length ≤ k ∧ Hid (ScanInv w wr s k s3 pre) ∧ Hid (pre ++ scanGo f s.data.toList k = L))
  case atStart => exact ⟨0, s.size + 1, [], Nat.zero_le _, by omega, by omega, Nat.le_refl _, HI, HL.out⟩
  case round =>
    obtain ⟨k, f, pre, hk, hg, hf, hpl, hI, hP⟩ := hrel
    clear HL HI
    obtain ⟨f', rfl⟩ : ∃ f', f = f' + 1 := ⟨f - 1, by omega⟩
    have hcur := hI.out.cursor
    have c0 := hcur.text
    have c1 := hcur.place
    clear hcur
    by_cases hlt : k < s.size
    · have hlen : s.data.toList.length = s.size := by simp
      have hbd := tok_bounds s.data.toList k (by omega)
      obtain ⟨K, hK⟩ : ∃ K, (tok s.data.toList k).1 = K := ⟨_, rfl⟩
      obtain ⟨E, hE⟩ : ∃ E, (tok s.data.toList k).2 = E := ⟨_, rfl⟩
      have hnext := next_any w.heap.size s k
      have hp := hP.out
      rw [scanGo, if_pos (by omega)] at hp
      rw [hK, hE] at hp hnext
      rw [hE] at hbd
      have HP := Lib.hid hp
      have HN := Lib.hid hnext
      obtain ⟨hb1, hb2⟩ := hbd
      have hb2' : E ≤ s.size := by omega
      clear hK hE hp hnext hlen hb2 hP
      go_wp2_with fail
      refine (HN.out _ hI.out.cursor hlt (by omega)).mono ?_
      rintro e w2 ⟨rfl, hb⟩
      have hI2 := Lib.hid (hI.out.later hb)
      have hcur := hI2.out.cursor
      have c0' := hcur.text
      have c1' := hcur.place
      clear hcur hI hb c0 c1
      dsimp only
      go_wp2_with (at_builtin; refine wpList_append_own _ rfl _ _ 51 rfl (w.heap.size + 1) 54 i0 (.agg #[.int .i64 0, .int .i64 0, .int .i64 0]) 3 24 Tryd.underlying51 hi hz0 hz1 hz2 rfl (by decide) _ _ _ rfl (hI2.out.own.alloc _) ⟨w2.heap.size, 0, none⟩ 1 1 (tokCells (K, k, E)) rfl rfl ?p1 ?p2 ?p3 ?p4 ?p5 ?_)
      case p1 =>
        intro j u hj
        have e : ((⟨w2.heap.size, 0, none⟩ : Addr).add j) = ⟨w2.heap.size, j, none⟩ := by unfold Addr.add; split <;> simp_all
        rw [e, new_cell _ _ _ _ _ rfl]
        match j, hj with
        | 0, hj | 1, hj | 2, hj => simpa [tokCells] using hj
      case p2 =>
        intro u hu
        simp [tokCells] at hu
        rcases hu with rfl | rfl | rfl <;> rfl
      case p3 => unfold maxLen; omega
      case p4 => omega
      case p5 => have := hI2.out.below.size; have := (Array.getElem?_eq_some_iff.1 hI2.out.cur).1; simp; omega
      intro v' w3 hown' hgrow _
      have hI3 := Lib.hid ((hI2.out.fresh _).appended hgrow hown')
      clear hown' hgrow hI2 c0' c1'
      have hcur := hI3.out.cursor
      have d0 := hcur.text
      have d1 := hcur.place
      have df := hI3.out.notFrozen 1
      clear hcur
      go_wp2
      go_roundg (s.size + 1 - E)
      case measure => omega
      case rel => exact ⟨E, f', pre ++ [(K, k, E)], hb2', by omega, by omega, by simp; omega, hI3.out.moved, by show _ = _; rw [List.append_assoc]; exact HP.out⟩
    · have hlen : s.data.toList.length = s.size := by simp
      have hp := hP.out
      rw [scanGo, if_neg (by omega), hlen] at hp
      have HP := Lib.hid hp
      clear hp hlen hP
      go_wp2_with (at_builtin; refine wpList_append_own _ rfl _ _ 51 rfl (w.heap.size + 1) 54 i0 (.agg #[.int .i64 0, .int .i64 0, .int .i64 0]) 3 24 Tryd.underlying51 hi hz0 hz1 hz2 rfl (by decide) _ _ _ rfl (hI.out.own.alloc _) ⟨wr.heap.size, 0, none⟩ 1 1 (tokCells (0, s.size, s.size)) rfl rfl ?q1 ?q2 ?q3 ?q4 ?q5 ?_)
      case q1 =>
        intro j u hj
        have e : ((⟨wr.heap.size, 0, none⟩ : Addr).add j) = ⟨wr.heap.size, j, none⟩ := by unfold Addr.add; split <;> simp_all
        rw [e, new_cell _ _ _ _ _ rfl]
        match j, hj with
        | 0, hj | 1, hj | 2, hj => simpa [tokCells] using hj
      case q2 =>
        intro u hu
        simp [tokCells] at hu
        rcases hu with rfl | rfl | rfl <;> rfl
      case q3 => unfold maxLen; omega
      case q4 => omega
      case q5 => have := hI.out.below.size; have := (Array.getElem?_eq_some_iff.1 hI.out.cur).1; simp; omega
      intro v' w3 hown' hgrow _
      have hI3 := Lib.hid ((hI.out.fresh _).appended hgrow hown')
      clear hown' hgrow hI c0 c1
      go_wp2
      go_ret
      refine ⟨_, rfl, ?_, hI3.out.below⟩
      have := hI3.out.own
      rw [HP.out] at this
      exact this
end Go.Proofs.YtbbibngagdpdcaaDoor
