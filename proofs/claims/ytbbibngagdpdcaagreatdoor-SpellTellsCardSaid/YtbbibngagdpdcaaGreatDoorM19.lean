/-
  PROVED HERE: a part of the proof of the card 'SpellTellsCardSaid': what functions of the program, or of the document's packages, that SpellTells reaches compute (texts G4, G5, G6). CONDITIONS: each theorem's own.
-/
import Derived.Test.YtbbibngagdpdcaaGreatDoorM18
namespace Go.Proofs.YtbbibngagdpdcaaGreatDoor
open Go Go.RowKit
open Go.Shelf

/-- WHAT orielref05.Next KEEPS: the result's cells, the token's cells. -/
structure NextInv (w wr : World) (K : Int) (a e : Nat) : Prop where
  res : wr.heap[w.heap.size]? = some (.cells #[.int .i64 0, .int .i64 0, .int .i64 0] 51 (0, 0))
  tok : wr.heap[w.heap.size + 1]? = some (.cells #[.int .i64 K, .int .i64 (a : Nat), .int .i64 (e : Nat)] 51 (0, 0))
  below : Below w.heap.size w wr

theorem NextInv.size {w wr : World} {K : Int} {a e : Nat} (h : NextInv w wr K a e) : w.heap.size + 1 < wr.heap.size := (Array.getElem?_eq_some_iff.1 h.tok).1

theorem NextInv.cells {w wr : World} {K : Int} {a e : Nat} (h : NextInv w wr K a e) :
    wr.cell? ⟨w.heap.size + 1, 0, none⟩ = some (.int .i64 K) ∧ wr.cell? ⟨w.heap.size + 1, 1, none⟩ = some (.int .i64 (a : Nat)) ∧ wr.cell? ⟨w.heap.size + 1, 2, none⟩ = some (.int .i64 (e : Nat)) :=
  ⟨by rw [cell_of_row _ _ _ _ _ _ h.tok]; rfl, by rw [cell_of_row _ _ _ _ _ _ h.tok]; rfl, by rw [cell_of_row _ _ _ _ _ _ h.tok]; rfl⟩

theorem NextInv.soft {w wr : World} {K : Int} {a e : Nat} (h : NextInv w wr K a e) (j : Nat) : wr.frozen? ⟨w.heap.size + 1, j, none⟩ = false := frozen_of_row _ _ _ _ _ h.tok

theorem NextInv.later {w wr w2 : World} {K : Int} {a e : Nat} (h : NextInv w wr K a e) (hb : Below wr.heap.size wr w2) : NextInv w w2 K a e :=
  ⟨(hb.block _ (by have := h.size; omega)).trans h.res, (hb.block _ h.size).trans h.tok, Below.next h.below (Nat.le_refl _) hb⟩

theorem NextInv.kinded {w wr : World} {K : Int} {a e : Nat} (h : NextInv w wr K a e) (K' : Int) : NextInv w (wr.setCell ⟨w.heap.size + 1, 0, none⟩ (.int .i64 K')) K' a e :=
  ⟨by rw [heap_setCell_other _ _ _ _ (by simp)]; exact h.res, by rw [heap_setCell_same _ _ _ _ _ _ h.tok]; rfl, h.below.setCell (by show w.heap.size ≤ w.heap.size + 1; omega) _⟩

theorem NextInv.ended {w wr : World} {K : Int} {a e : Nat} (h : NextInv w wr K a e) (e' : Nat) : NextInv w (wr.setCell ⟨w.heap.size + 1, 2, none⟩ (.int .i64 (e' : Nat))) K a e' :=
  ⟨by rw [heap_setCell_other _ _ _ _ (by simp)]; exact h.res, by rw [heap_setCell_same _ _ _ _ _ _ h.tok]; rfl, h.below.setCell (by show w.heap.size ≤ w.heap.size + 1; omega) _⟩

theorem NextInv.start (w : World) (k0 : Nat) : NextInv w ((w.alloc (.cells #[.int .i64 0, .int .i64 0, .int .i64 0] 51)).alloc (.cells #[.int .i64 3, .int .i64 (k0 : Nat), .int .i64 ((k0 : Int) + 1)] 51)) 3 k0 (k0 + 1) := by
  refine ⟨?_, ?_, ((Below.refl _ w).alloc (Nat.le_refl _) _).alloc (by simp) _⟩
  · exact (Below.heap_alloc _ _ _ (by simp)).trans (heap_alloc_new w _)
  · have := heap_alloc_new (w.alloc (.cells #[.int .i64 0, .int .i64 0, .int .i64 0] 51)) (.cells #[.int .i64 3, .int .i64 (k0 : Nat), .int .i64 ((k0 : Int) + 1)] 51)
    rw [show (w.alloc (.cells #[.int .i64 0, .int .i64 0, .int .i64 0] 51)).heap.size = w.heap.size + 1 by simp] at this
    exact this

theorem infoTok3 : (Tryz.prog.info? 51).map (·.size) = some 3 := by kernel_rfl

theorem setRow_same (w : World) (g : Nat) (cs cs' : Array Value) (t : TypeId) (fr : Nat × Nat) (h : w.heap[g]? = some (.cells cs t fr)) : (w.setRow g cs').heap[g]? = some (.cells cs' t fr) := by
  unfold World.setRow
  simp [Array.getElem?_modify, h]

theorem setRow_other (w : World) (g k : Nat) (cs' : Array Value) (h : k ≠ g) : (w.setRow g cs').heap[k]? = w.heap[k]? := by
  unfold World.setRow
  simp [Array.getElem?_modify, Ne.symm h]

/-- A WHOLE ROW STORED INTO A BLOCK THAT IS THERE. -/
theorem wpList_store_block {P : Program} {w : World} {ops : Array Oper} {rest : List Oper} {o : Oper} {a : Act} {Q : Exit → Act → World → Prop}
    (hg : o.guard = none) (ty : TypeId) (x y : Operand) (hop : o.op = Op.store ty x y) (b : Nat) (t : TypeId) (cs : Array Value) (hx : a.eval x = .pointer (some ⟨b, 0, none⟩)) (hb : w.heap[b]? = some (.cells cs t (0, 0)))
    (v : Value) (hy : a.eval y = v) (hs : v.cells.size = cs.size) (hi : (P.info? ty).map (·.size) = some cs.size) (h1 : ∀ u ∈ v.cells.toList, u.oneCell' = true)
    (hK : wpList P ops Q rest (a.put o.dst undef) (w.setRow b v.cells)) : wpList P ops Q (o :: rest) a w := by
  refine wpList_plain hg fun K hK' => ?_
  have hst := run_storeCells_at (P := P) b 0 t v.cells.toList 0 cs w hb (by simp [hs]) h1
  have e : (cs.toList.take (0 + 0) ++ v.cells.toList ++ cs.toList.drop (0 + 0 + v.cells.toList.length)).toArray = v.cells := by
    rw [Nat.zero_add, List.take_zero, List.nil_append, List.drop_eq_nil_of_le (by simp [hs]), List.append_nil, Array.toArray_toList]
  rw [e] at hst
  cases hq : P.info? ty with
  | none => simp [hq] at hi
  | some i =>
    have hsz : i.size = cs.size := by simpa [hq] using hi
    unfold Oper.wp
    simp [execOp, hop, hx, hy, Instr.storeAt, Instr.sureAddr, storeVar, sizeOf, typeInfo, hq, hsz, hs, hst, Result.andThen]
    exact hK' _ _ hK

/-- WHAT IS LEFT BEHIND THE LAST STORE. -/
theorem NextInv.stored {w wr : World} {K : Int} {a e : Nat} (h : NextInv w wr K a e) (cs : Array Value) : (wr.setRow w.heap.size cs).heap[w.heap.size]? = some (.cells cs 51 (0, 0)) ∧ Below w.heap.size w (wr.setRow w.heap.size cs) := by
  refine ⟨setRow_same _ _ _ _ _ _ h.res, ⟨h.below.os, h.below.tape, h.below.output, ?_, fun k hk => ?_⟩⟩
  · have := h.below.size
    unfold World.setRow
    simp
    exact this
  · rw [setRow_other _ _ _ _ (by omega)]
    exact h.below.block k hk

theorem wpList_store_tok {w wr : World} {K : Int} {k0 e : Nat} (h : NextInv w wr K k0 e) {ops : Array Oper} {rest : List Oper} {o : Oper} {a : Act} {Q : Exit → Act → World → Prop}
    (hg : o.guard = none) (x y : Operand) (hop : o.op = Op.store 51 x y) (hx : a.eval x = .pointer (some ⟨w.heap.size, 0, none⟩)) (hy : a.eval y = .agg #[.int .i64 K, .int .i64 (k0 : Nat), .int .i64 (e : Nat)])
    (hK : wpList Tryz.prog ops Q rest (a.put o.dst undef) (wr.setRow w.heap.size #[.int .i64 K, .int .i64 (k0 : Nat), .int .i64 (e : Nat)])) : wpList Tryz.prog ops Q (o :: rest) a wr := by
  refine wpList_store_block hg 51 x y hop w.heap.size 51 _ hx h.res (.agg #[.int .i64 K, .int .i64 (k0 : Nat), .int .i64 (e : Nat)]) hy rfl infoTok3 ?_ hK
  intro u hu
  simp [Value.cells] at hu
  rcases hu with rfl | rfl | rfl <;> rfl

theorem run_at (p : Int → Bool) (s : ByteArray) (e : Nat) (h : e < s.size) : runL p (s.data.toList.drop e) = if p s[e].toNat then runL p (s.data.toList.drop (e + 1)) + 1 else 0 := by
  rw [List.drop_eq_getElem_cons (by simpa using h), runL]
  rfl

theorem run_end (p : Int → Bool) (s : ByteArray) (e : Nat) (h : s.size ≤ e) : runL p (s.data.toList.drop e) = 0 := by
  rw [List.drop_eq_nil_of_le (by simpa using h)]; rfl

set_option maxHeartbeats 2000000 in
set_option maxRecDepth 100000 in
theorem rNext_blank (s : ByteArray) (k0 R : Nat) (w : World) (hs : s.size ≤ 140737488351232) (hk0 : k0 < s.size) (hb : blankB s[k0].toNat = true) (hR : k0 + runL blankB (s.data.toList.drop k0) = R) :
    Calls Tryz.prog 60 #[.string s, .int .i64 k0] w fun e w' => e = .returned (.agg #[.int .i64 1, .int .i64 k0, .int .i64 (R : Nat)]) ∧ Below w.heap.size w w' := by
  have HR : Hid (k0 + 1 + runL blankB (s.data.toList.drop (k0 + 1)) = R) := by
    rw [Hid, ← hR, run_at blankB s k0 hk0, if_pos hb]; omega
  have HB := Lib.hid hb
  have HI := Lib.hid (NextInv.start w k0)
  clear hb hR
  have hkz : (k0 : Int) < (s.size : Int) := by omega
  go_enter Tryz.func60, Tryz.ntmps60
  go_wp2_with fail
  refine (rBlank_any _ _).mono ?_
  rintro e w' ⟨rfl, rfl⟩
  rw [HB.out]
  obtain ⟨wa, hwa⟩ : ∃ wa, wa = ((w.alloc (.cells #[.int .i64 0, .int .i64 0, .int .i64 0] 51)).alloc (.cells #[.int .i64 3, .int .i64 (k0 : Nat), .int .i64 ((k0 : Int) + 1)] 51)) := ⟨_, rfl⟩
  rw [← hwa] at HI ⊢
  clear hwa
  obtain ⟨c0, c1, c2⟩ := HI.out.cells
  have f0 := HI.out.soft 0
  dsimp only
  go_wp2
  have HI2 := Lib.hid (HI.out.kinded 1)
  clear HI c0 c1 c2 f0
  go_loopg [22] s.size (fun g _ wr => ∃ e : Nat, e ≤ s.size ∧ s.size - e ≤ g ∧ Hid (NextInv w wr 1 k0 e) ∧ Hid (e + runL blankB (s.data.toList.drop e) = R))
  case atStart => exact ⟨k0 + 1, by omega, by omega, HI2, HR⟩
  case round =>
    obtain ⟨e, he, hg, hI, hR⟩ := hrel
    clear HI2 HR
    obtain ⟨c0, c1, c2⟩ := hI.out.cells
    have f2 := hI.out.soft 2
    by_cases hlt : e < s.size
    · have hez : (e : Int) < (s.size : Int) := by omega
      cases hp : blankB s[e].toNat with
      | true =>
        have HP := Lib.hid hp
        have hR2 : Hid (e + 1 + runL blankB (s.data.toList.drop (e + 1)) = R) := by
          have := hR.out
          rw [run_at blankB s e hlt, hp, if_pos rfl] at this
          show _ = _
          omega
        clear hp hR
        go_wp2_with fail
        refine (rBlank_any _ _).mono ?_
        rintro e' w' ⟨rfl, rfl⟩
        rw [HP.out]
        dsimp only
        go_wp2
        go_roundg (s.size - (e + 1))
        case measure => omega
        case rel => exact ⟨e + 1, by omega, Nat.le_refl _, hI.out.ended (e + 1), hR2⟩
      | false =>
        have HP := Lib.hid hp
        have hR2 : Hid (R = e) := by
          have := hR.out
          rw [run_at blankB s e hlt, hp] at this
          show _ = _
          simp at this
          omega
        clear hp hR
        go_wp2_with fail
        refine (rBlank_any _ _).mono ?_
        rintro e' w' ⟨rfl, rfl⟩
        rw [HP.out]
        dsimp only
        go_wp2_with (first | (refine wpList_store_tok hI.out rfl (.tmp 4) (.tmp 37) rfl rfl rfl ?_))
        rw [hR2.out]
        refine bodyPost_ret (v := .agg #[.int .i64 1, .int .i64 (k0 : Nat), .int .i64 (e : Nat)]) (results_cell_row (g := w.heap.size) (t := 51) (cs := #[.int .i64 1, .int .i64 (k0 : Nat), .int .i64 (e : Nat)]) (fr := (0, 0)) (d := _) rfl _ _ rfl (hI.out.stored _).1 Tryz.underlying51 rfl infoTok3) rfl ⟨rfl, (hI.out.stored _).2⟩
    · obtain rfl : e = s.size := by omega
      have hR2 : Hid (R = s.size) := by
        have := hR.out
        rw [run_end blankB s s.size (Nat.le_refl _)] at this
        show _ = _
        omega
      have hez : ¬ (s.size : Int) < (s.size : Int) := by omega
      clear hR
      go_wp2_with (first | (refine wpList_store_tok hI.out rfl (.tmp 4) (.tmp 37) rfl rfl rfl ?_))
      rw [hR2.out]
      refine bodyPost_ret (v := .agg #[.int .i64 1, .int .i64 (k0 : Nat), .int .i64 (s.size : Nat)]) (results_cell_row (g := w.heap.size) (t := 51) (cs := #[.int .i64 1, .int .i64 (k0 : Nat), .int .i64 (s.size : Nat)]) (fr := (0, 0)) (d := _) rfl _ _ rfl (hI.out.stored _).1 Tryz.underlying51 rfl infoTok3) rfl ⟨rfl, (hI.out.stored _).2⟩
end Go.Proofs.YtbbibngagdpdcaaGreatDoor

namespace Go.Proofs.YtbbibngagdpdcaaGreatDoor
open Go Go.RowKit
open Go.Shelf

/-- THE LAST STEP OF orielref05.Next. -/
theorem next_done {w wr : World} {K : Int} {k0 e : Nat} (h : NextInv w wr K k0 e) (tmps : Array Value) (hp : tmps.getD 4 undef = .pointer (some ⟨w.heap.size, 0, none⟩)) :
    (results Tryz.f60 tmps).run Tryz.prog (wr.setRow w.heap.size #[.int .i64 K, .int .i64 (k0 : Nat), .int .i64 (e : Nat)]) = .ok (.agg #[.int .i64 K, .int .i64 (k0 : Nat), .int .i64 (e : Nat)]) (wr.setRow w.heap.size #[.int .i64 K, .int .i64 (k0 : Nat), .int .i64 (e : Nat)]) :=
  results_cell_row (g := w.heap.size) (t := 51) (cs := #[.int .i64 K, .int .i64 (k0 : Nat), .int .i64 (e : Nat)]) (fr := (0, 0)) (d := _) rfl _ _ hp (h.stored _).1 Tryz.underlying51 rfl infoTok3

set_option maxHeartbeats 2000000 in
set_option maxRecDepth 100000 in
theorem rNext_note (s : ByteArray) (k0 : Nat) (r : Int) (w : World) (hs : s.size ≤ 140737488351232) (hk0 : k0 < s.size) (hb : blankB s[k0].toNat = false) (hp : Lib.hasPrefix (s.data.toList.drop k0) [40, 42] = true) (hr : endOr (noteEnd s.data.toList k0) = r) (K : Int) (E : Nat)
    (hKE : (r ≤ 0 ∧ K = 3 ∧ E = s.size) ∨ (0 < r ∧ K = 2 ∧ (E : Int) = r)) :
    Calls Tryz.prog 60 #[.string s, .int .i64 k0] w fun e w' => e = .returned (.agg #[.int .i64 K, .int .i64 k0, .int .i64 (E : Nat)]) ∧ Below w.heap.size w w' := by
  have h1 : k0 + 1 < s.size := by
    by_cases h : k0 + 1 < s.size
    · exact h
    · rw [pre_short s k0 (by omega)] at hp; cases hp
  have hpp := hp
  rw [pre_two s k0 h1] at hpp
  simp only [Bool.and_eq_true, beq_iff_eq] at hpp
  have t1 : ((s[k0].toNat : Int) == 40) = true := by rw [← hpp.1]; rfl
  have t2 : ((s[k0 + 1].toNat : Int) == 42) = true := by rw [← hpp.2]; rfl
  have HB := Lib.hid hb
  have HP := Lib.hid hp
  have HR := Lib.hid hr
  have HI := Lib.hid (NextInv.start w k0)
  have HKE := Lib.hid hKE
  clear hb hp hpp hr hKE
  have hkz : (k0 : Int) < (s.size : Int) := by omega
  have hkz1 : (k0 : Int) + 1 < (s.size : Int) := by omega
  go_enter Tryz.func60, Tryz.ntmps60
  go_wp2_with fail
  refine (rBlank_any _ _).mono ?_
  rintro e w' ⟨rfl, rfl⟩
  rw [HB.out]
  obtain ⟨wa, hwa⟩ : ∃ wa, wa = ((w.alloc (.cells #[.int .i64 0, .int .i64 0, .int .i64 0] 51)).alloc (.cells #[.int .i64 3, .int .i64 (k0 : Nat), .int .i64 ((k0 : Int) + 1)] 51)) := ⟨_, rfl⟩
  rw [← hwa] at HI ⊢
  clear hwa
  obtain ⟨c0, c1, c2⟩ := HI.out.cells
  have f2 := HI.out.soft 2
  dsimp only
  go_wp2_with fail
  have HI2 := Lib.hid (HI.out.ended s.size)
  obtain ⟨wb, hwb⟩ : ∃ wb, wb = wa.setCell ⟨w.heap.size + 1, 2, none⟩ (.int .i64 (s.size : Nat)) := ⟨_, rfl⟩
  rw [← hwb] at HI2 ⊢
  clear hwb c0 c1 c2 f2 HI
  refine (rNote_to r s k0 wb hs HP.out HR.out).mono ?_
  rintro e w2 ⟨rfl, hb2⟩
  have HI3 := Lib.hid (HI2.out.later hb2)
  clear hb2 HI2
  obtain ⟨c0, c1, c2⟩ := HI3.out.cells
  have f0 := HI3.out.soft 0
  have f2 := HI3.out.soft 2
  dsimp only
  rcases HKE.out with ⟨hr0, rfl, rfl⟩ | ⟨hr0, rfl, hE⟩
  · have hr1 : ¬ (0 < r) := by omega
    go_wp2_with (first | (refine wpList_store_tok HI3.out rfl (.tmp 4) (.tmp 65) rfl rfl rfl ?_))
    exact bodyPost_ret (next_done HI3.out _ rfl) rfl ⟨rfl, (HI3.out.stored _).2⟩
  · subst hE
    have HI4 := Lib.hid ((HI3.out.kinded 2).ended E)
    go_wp2_with (first | (refine wpList_store_tok HI4.out rfl (.tmp 4) (.tmp 65) rfl rfl rfl ?_))
    exact bodyPost_ret (next_done HI4.out _ rfl) rfl ⟨rfl, (HI4.out.stored _).2⟩
end Go.Proofs.YtbbibngagdpdcaaGreatDoor

namespace Go.Proofs.YtbbibngagdpdcaaGreatDoor
open Go Go.RowKit
open Go.Shelf

def lineB (c : Int) : Bool := !decide (c = 10)

set_option maxHeartbeats 2000000 in
set_option maxRecDepth 100000 in
theorem rNext_text (s : ByteArray) (k0 R : Nat) (r : Int) (w : World) (hs : s.size ≤ 140737488351232) (hk0 : k0 < s.size) (hc : s[k0] = 34) (hr : endOr (textGo (s.data.toList.drop (k0 + 1)) (k0 + 1)) = r) (hR : k0 + runL lineB (s.data.toList.drop k0) = R) (K : Int) (E : Nat)
    (hKE : (r ≤ 0 ∧ K = 3 ∧ E = R) ∨ (0 < r ∧ K = 5 ∧ (E : Int) = r)) :
    Calls Tryz.prog 60 #[.string s, .int .i64 k0] w fun e w' => e = .returned (.agg #[.int .i64 K, .int .i64 k0, .int .i64 (E : Nat)]) ∧ Below w.heap.size w w' := by
  have t1 : ((s[k0].toNat : Int) == 40) = false := by rw [hc]; rfl
  have t2 : ((s[k0].toNat : Int) == 34) = true := by rw [hc]; rfl
  have hb : blankB s[k0].toNat = false := by rw [hc]; rfl
  have HR : Hid (k0 + 1 + runL lineB (s.data.toList.drop (k0 + 1)) = R) := by
    have hl : lineB s[k0].toNat = true := by rw [hc]; rfl
    rw [Hid, ← hR, run_at lineB s k0 hk0, if_pos hl]; omega
  have HB := Lib.hid hb
  have HT := Lib.hid hr
  have HI := Lib.hid (NextInv.start w k0)
  have HKE := Lib.hid hKE
  clear hb hc hr hKE hR
  have hkz : (k0 : Int) < (s.size : Int) := by omega
  go_enter Tryz.func60, Tryz.ntmps60
  go_wp2_with fail
  refine (rBlank_any _ _).mono ?_
  rintro e w' ⟨rfl, rfl⟩
  rw [HB.out]
  obtain ⟨wa, hwa⟩ : ∃ wa, wa = ((w.alloc (.cells #[.int .i64 0, .int .i64 0, .int .i64 0] 51)).alloc (.cells #[.int .i64 3, .int .i64 (k0 : Nat), .int .i64 ((k0 : Int) + 1)] 51)) := ⟨_, rfl⟩
  rw [← hwa] at HI ⊢
  clear hwa
  dsimp only
  go_wp2_with fail
  refine (rText_to r s k0 wa hs hk0 HT.out).mono ?_
  rintro e w2 ⟨rfl, hb2⟩
  have HI3 := Lib.hid (HI.out.later hb2)
  clear hb2 HI
  dsimp only
  rcases HKE.out with ⟨hr0, rfl, rfl⟩ | ⟨hr0, rfl, hE⟩
  · have hr1 : ¬ (0 < r) := by omega
    go_wp2
    go_loopg [78] s.size (fun g _ wr => ∃ e : Nat, e ≤ s.size ∧ s.size - e ≤ g ∧ Hid (NextInv w wr 3 k0 e) ∧ Hid (e + runL lineB (s.data.toList.drop e) = E))
    case atStart => exact ⟨k0 + 1, by omega, by omega, HI3, HR⟩
    case round =>
      obtain ⟨e, he, hg, hI, hR⟩ := hrel
      clear HI3 HR
      obtain ⟨c0, c1, c2⟩ := hI.out.cells
      have f2 := hI.out.soft 2
      by_cases hlt : e < s.size
      · have hez : (e : Int) < (s.size : Int) := by omega
        by_cases hp : s[e].toNat = 10
        · have hz : ((s[e].toNat : Int) != 10) = false := by rw [hp]; rfl
          have hR2 : Hid (E = e) := by
            have := hR.out
            rw [run_at lineB s e hlt, hp] at this
            show _ = _
            simp [lineB] at this
            omega
          clear hR hp
          go_wp2_with (first | (refine wpList_store_tok hI.out rfl (.tmp 4) (.tmp 93) rfl rfl rfl ?_))
          rw [hR2.out]
          exact bodyPost_ret (next_done hI.out _ rfl) rfl ⟨rfl, (hI.out.stored _).2⟩
        · have hz : ((s[e].toNat : Int) != 10) = true := by
            rw [bne_iff_ne]
            omega
          have hR2 : Hid (e + 1 + runL lineB (s.data.toList.drop (e + 1)) = E) := by
            have := hR.out
            have hl : lineB s[e].toNat = true := by
              unfold lineB
              simp
              omega
            rw [run_at lineB s e hlt, hl, if_pos rfl] at this
            show _ = _
            omega
          clear hR hp
          go_wp2
          go_roundg (s.size - (e + 1))
          case measure => omega
          case rel => exact ⟨e + 1, by omega, Nat.le_refl _, hI.out.ended (e + 1), hR2⟩
      · obtain rfl : e = s.size := by omega
        have hR2 : Hid (E = s.size) := by
          have := hR.out
          rw [run_end lineB s s.size (Nat.le_refl _)] at this
          show _ = _
          omega
        have hez : ¬ (s.size : Int) < (s.size : Int) := by omega
        clear hR
        go_wp2_with (first | (refine wpList_store_tok hI.out rfl (.tmp 4) (.tmp 93) rfl rfl rfl ?_))
        rw [hR2.out]
        exact bodyPost_ret (next_done hI.out _ rfl) rfl ⟨rfl, (hI.out.stored _).2⟩
  · subst hE
    obtain ⟨c0, c1, c2⟩ := HI3.out.cells
    have f0 := HI3.out.soft 0
    have f2 := HI3.out.soft 2
    have HI4 := Lib.hid ((HI3.out.kinded 5).ended E)
    go_wp2_with (first | (refine wpList_store_tok HI4.out rfl (.tmp 4) (.tmp 76) rfl rfl rfl ?_))
    exact bodyPost_ret (next_done HI4.out _ rfl) rfl ⟨rfl, (HI4.out.stored _).2⟩
end Go.Proofs.YtbbibngagdpdcaaGreatDoor
