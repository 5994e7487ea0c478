/-
  PROVED HERE: a part of the proof of the card 'SpellTellsCardSaid': what functions of the program, or of the document's packages, that SpellTells reaches compute (texts C2, C3, C4). CONDITIONS: each theorem's own.
-/
import Derived.Test.YtbbibngagdpdcaaGreatDoorM09
import Derived.Maps.AppendAt
namespace Go.Proofs.YtbbibngagdpdcaaGreatDoor
open Go Go.RowKit
open Go.Shelf

theorem flat_set (R : List Tok) (i : Nat) (t : Tok) (h : i < R.length) :
    (((R.flatMap tokCells).set (i * 3) (.int .i64 t.1)).set (i * 3 + 1) (.int .i64 (t.2.1 : Nat))).set (i * 3 + 2) (.int .i64 (t.2.2 : Nat)) = (R.set i t).flatMap tokCells := by
  induction R generalizing i with
  | nil => simp at h
  | cons x r ih =>
    cases i with
    | zero => simp [tokCells]
    | succ i =>
      have h' : i < r.length := by simpa using h
      have key : ∀ (F : List Value) (m : Nat) (v : Value), (tokCells x ++ F).set (m + 3) v = tokCells x ++ F.set m v := fun _ _ _ => rfl
      rw [List.flatMap_cons, show (i + 1) * 3 = i * 3 + 3 by omega, key, show i * 3 + 3 + 1 = (i * 3 + 1) + 3 by omega, key, show i * 3 + 3 + 2 = (i * 3 + 2) + 3 by omega, key, ih i h', List.set_cons_succ, List.flatMap_cons]

theorem flat_take (R : List Tok) : ∀ i, (R.flatMap tokCells).take (i * 3) = (R.take i).flatMap tokCells := by
  induction R with
  | nil => intro i; simp
  | cons x r ih =>
    intro i
    cases i with
    | zero => simp
    | succ i =>
      have key : ∀ (F : List Value) (m : Nat), (tokCells x ++ F).take (m + 3) = tokCells x ++ F.take m := fun _ _ => rfl
      rw [List.flatMap_cons, show (i + 1) * 3 = i * 3 + 3 by omega, key, ih, List.take_succ_cons, List.flatMap_cons]

theorem own_set {w : World} {base g cap : Nat} {n : Nat} {R : List Tok} (h : w.ownsRow base 51 3 (.slice (some ⟨g, 0, none⟩) n cap) n (R.flatMap tokCells)) (i : Nat) (t : Tok) (hi : i < R.length) :
    (((w.setCell ⟨g, i * 3, none⟩ (.int .i64 t.1)).setCell ⟨g, i * 3 + 1, none⟩ (.int .i64 (t.2.1 : Nat))).setCell ⟨g, i * 3 + 2, none⟩ (.int .i64 (t.2.2 : Nat))).ownsRow base 51 3 (.slice (some ⟨g, 0, none⟩) n cap) n ((R.set i t).flatMap tokCells) ∧
    w.grownBy (((w.setCell ⟨g, i * 3, none⟩ (.int .i64 t.1)).setCell ⟨g, i * 3 + 1, none⟩ (.int .i64 (t.2.1 : Nat))).setCell ⟨g, i * 3 + 2, none⟩ (.int .i64 (t.2.2 : Nat))) (some g) := by
  have s1 := h.stored (i * 3) (.int .i64 t.1)
  have s2 := s1.1.stored (i * 3 + 1) (.int .i64 (t.2.1 : Nat))
  have s3 := s2.1.stored (i * 3 + 2) (.int .i64 (t.2.2 : Nat))
  rw [flat_set R i t hi] at s3
  exact ⟨s3.1, (s1.2.trans s2.2).trans s3.2⟩

/-- clear(s[i:]) ON AN OWNED ROW OF TOKENS. -/
theorem clear_own {w : World} {base g cap : Nat} {n i : Nat} {R : List Tok} (h : w.ownsRow base 51 3 (.slice (some ⟨g, 0, none⟩) n cap) n (R.flatMap tokCells)) (hR : R.length = n) (hi : i < n) :
    ∃ w', (∀ ty, (Builtin.clear_ #[48] ty #[.slice (some ⟨g, i * 3, none⟩) (n - i) (cap - i)]).run Tryz.prog w = .ok (.tuple #[]) w') ∧
      w'.ownsRow base 51 3 (.slice (some ⟨g, 0, none⟩) i cap) i ((R.take i).flatMap tokCells) ∧ w.grownBy w' (some g) := by
  obtain ⟨hl, h2⟩ := h
  rcases h2 with ⟨h', _⟩ | ⟨g', cap', cur, h', hb, hg, hnc, hcm, hcs, htake⟩
  · cases h'
  · simp only [Value.slice.injEq, Option.some.injEq, Addr.mk.injEq, and_true, true_and] at h'
    obtain ⟨rfl, rfl⟩ := h'
    obtain ⟨m, hm⟩ : ∃ m, n - i = m + 1 := ⟨n - i - 1, by omega⟩
    have hzv : ∀ w, (zeroValue 51).run Tryz.prog w = .ok (.agg #[.int .i64 0, .int .i64 0, .int .i64 0]) w := fun w => by kernel_rfl
    obtain ⟨zs, hzs⟩ : ∃ zs, (Builtin.zeroCells #[.int .i64 0, .int .i64 0, .int .i64 0] (n - i)).toList = zs := ⟨_, rfl⟩
    have hzl : zs.length = (n - i) * 3 := by rw [← hzs, Array.length_toList, size_zeroCells]; rfl
    have hz1 : ∀ u ∈ zs, u.oneCell' = true := by
      intro u hu
      rw [← hzs] at hu
      simp only [Builtin.zeroCells, Array.toList_map, List.mem_map] at hu
      obtain ⟨q, _, rfl⟩ := hu
      have h3 : q % 3 < 3 := Nat.mod_lt _ (by decide)
      show Value.oneCell' (#[Value.int .i64 0, .int .i64 0, .int .i64 0][q % 3]!) = true
      match q % 3, h3 with
      | 0, _ | 1, _ | 2, _ => rfl
    have hst := run_storeCells_at (P := Tryz.prog) g (i * 3) 51 zs 0 cur w hg (by rw [hzl, hcs]; omega) hz1
    refine ⟨w.setRow g (cur.toList.take (i * 3) ++ zs ++ cur.toList.drop (i * 3 + zs.length)).toArray, fun ty => ?_, ⟨?_, .inr ⟨g, cap, _, rfl, hb, setRow_heap w g cur _ _ _ hg, by omega, hcm, ?_, ?_⟩⟩, ?_⟩
    · rw [hm] at hzs ⊢
      simp only [Nat.add_zero] at hst
      simp [Builtin.clear_, run_underlying Tryz.underlying48, hzv, Value.cells, hzs, hst, Result.andThen]
    · rw [flat_len, List.length_take]; omega
    · simp only [List.size_toArray, List.length_append, List.length_take, List.length_drop, Array.length_toList, hzl, hcs]
      omega
    · rw [List.append_assoc, List.take_append_of_le_length (by simp; omega), List.take_take, Nat.min_self, ← flat_take, ← htake, List.take_take, Nat.min_eq_left (by omega)]
    · exact ⟨rfl, rfl, rfl, by simp, fun k _ hk => setRow_other w g k _ (fun e => hk (by rw [e]))⟩

end Go.Proofs.YtbbibngagdpdcaaGreatDoor

namespace Go.Proofs.YtbbibngagdpdcaaGreatDoor
open Go Go.RowKit
open Go.Shelf

def namedT (t : Tok) : Bool := namedB t.1
/-- WHAT lex.Names GIVES. -/
def namesL (l : List UInt8) : List Tok := (scanL l).filter namedT

structure DelInv (ts R : List Tok) (i j : Nat) : Prop where
  len : R.length = ts.length
  lt : i < j
  le : j ≤ ts.length
  head : R.take i = (ts.take j).filter namedT
  tail : R.drop j = ts.drop j

theorem tok_cells_n {w : World} {base g cap n : Nat} {ts : List Tok} (h : w.ownsRow base 51 3 (.slice (some ⟨g, 0, none⟩) n cap) n (ts.flatMap tokCells)) (hn : ts.length = n) (i : Nat) (hi : i < ts.length) :
    w.cell? ⟨g, i * 3, none⟩ = some (.int .i64 ts[i].1) ∧ w.cell? ⟨g, i * 3 + 1, none⟩ = some (.int .i64 (ts[i].2.1 : Nat)) ∧ w.cell? ⟨g, i * 3 + 2, none⟩ = some (.int .i64 (ts[i].2.2 : Nat)) := by
  subst hn
  exact tok_cells h i hi

theorem take_snoc (ts : List Tok) (j : Nat) (h : j < ts.length) : ts.take (j + 1) = ts.take j ++ [ts[j]] := by
  rw [List.take_succ_eq_append_getElem h]

theorem filter_take_dropAt (ts : List Tok) : ∀ (_ : dropAt ts < ts.length), ts.take (dropAt ts) = (ts.take (dropAt ts + 1)).filter namedT := by
  induction ts with
  | nil => intro h; simp at h
  | cons t r ih =>
    intro h
    unfold dropAt at h ⊢
    cases ht : namedB t.1 with
    | true =>
      rw [ht, if_pos rfl] at h
      rw [if_pos rfl, List.take_succ_cons, List.take_succ_cons, List.filter_cons, if_pos (by exact ht), ← ih (by simpa using h)]
    | false =>
      rw [if_neg (by decide)]
      simp [namedT, ht]

theorem DelInv.start (ts : List Tok) (h : dropAt ts < ts.length) : DelInv ts ts (dropAt ts) (dropAt ts + 1) :=
  ⟨rfl, by omega, by omega, filter_take_dropAt ts h, rfl⟩

theorem DelInv.drop {ts R : List Tok} {i j : Nat} (h : DelInv ts R i j) (hj : j < ts.length) (hn : namedB ts[j].1 = false) : DelInv ts R i (j + 1) :=
  ⟨h.len, by have := h.lt; omega, hj, by rw [h.head, take_snoc ts j hj, List.filter_append]; simp [namedT, hn], by have := congrArg (List.drop 1) h.tail; rwa [List.drop_drop, List.drop_drop] at this⟩

theorem DelInv.keep {ts R : List Tok} {i j : Nat} (h : DelInv ts R i j) (hj : j < ts.length) (hn : namedB ts[j].1 = true) : DelInv ts (R.set i ts[j]) (i + 1) (j + 1) := by
  have hi : i < R.length := by have := h.lt; have := h.len; omega
  refine ⟨by rw [List.length_set, h.len], by have := h.lt; omega, hj, ?_, ?_⟩
  · rw [take_snoc ts j hj, List.filter_append, ← h.head]
    have : (R.set i ts[j]).take (i + 1) = R.take i ++ [ts[j]] := by
      rw [List.take_succ_eq_append_getElem (by simpa using hi), List.getElem_set_self, List.take_set_of_le (Nat.le_refl _)]
    rw [this]
    simp [namedT, hn]
  · rw [List.drop_set_of_lt (by have := h.lt; omega)]
    have := congrArg (List.drop 1) h.tail
    rwa [List.drop_drop, List.drop_drop] at this

theorem DelInv.get {ts R : List Tok} {i j : Nat} (h : DelInv ts R i j) (hj : j < ts.length) : R[j]'(by rw [h.len]; exact hj) = ts[j] := by
  have h1 : R.drop j = R[j]'(by rw [h.len]; exact hj) :: R.drop (j + 1) := List.drop_eq_getElem_cons _
  have h2 : ts.drop j = ts[j] :: ts.drop (j + 1) := List.drop_eq_getElem_cons hj
  have := h.tail
  rw [h1, h2] at this
  exact (List.cons.inj this).1

theorem DelInv.done {ts R : List Tok} {i : Nat} (h : DelInv ts R i ts.length) : R.take i = ts.filter namedT := by
  rw [h.head, List.take_length]

structure DelW (w wr : World) (base g cap n : Nat) (R : List Tok) : Prop where
  own : wr.ownsRow base 51 3 (.slice (some ⟨g, 0, none⟩) n cap) n (R.flatMap tokCells)
  grown : w.grownBy wr (some g)

set_option maxHeartbeats 2000000 in
set_option maxRecDepth 100000 in
theorem delete_any (base g cap : Nat) (ts : List Tok) (w : World) (hbig : ts.length ≤ 5000000000) (ho : w.ownsRow base 51 3 (.slice (some ⟨g, 0, none⟩) ts.length cap) ts.length (ts.flatMap tokCells)) (hd : dropAt ts < ts.length) :
    Calls Tryz.prog 57 #[.slice (some ⟨g, 0, none⟩) ts.length cap, .func (.func 59) #[] #[]] w fun e w' =>
      e = .returned (.slice (some ⟨g, 0, none⟩) (ts.filter namedT).length cap) ∧ w'.ownsRow base 51 3 (.slice (some ⟨g, 0, none⟩) (ts.filter namedT).length cap) (ts.filter namedT).length ((ts.filter namedT).flatMap tokCells) ∧ w.grownBy w' (some g) := by
  have hcap : ts.length ≤ cap ∧ cap ≤ 9223372036854775807 := by
    rcases ho.2 with ⟨h', _⟩ | ⟨g', cap', cur, h', hb, hg, hnc, hcm, hcs, htake⟩
    · cases h'
    · simp only [Value.slice.injEq, Option.some.injEq, Addr.mk.injEq, and_true, true_and] at h'
      obtain ⟨rfl, rfl⟩ := h'
      exact ⟨hnc, hcm⟩
  obtain ⟨hc1, hc2⟩ := hcap
  have HO := Lib.hid ho
  have HI := Lib.hid (DelInv.start ts hd)
  clear ho
  go_enter Tryz.func57, Tryz.ntmps57
  go_wp2_with fail
  refine (index_any base g cap ts _ hbig HO.out hd).mono ?_
  rintro e w1 ⟨rfl, hb1⟩
  have HW : Hid (DelW w w1 base g cap ts.length ts) := ⟨own_later HO.out hb1, grown_of_below hb1 _⟩
  clear hb1 HO
  obtain ⟨D, hD⟩ : ∃ D, dropAt ts = D := ⟨_, rfl⟩
  rw [hD] at HI hd ⊢
  clear hD
  have hneg : ((D : Int) == -1) = false := by rw [beq_eq_false_iff_ne]; omega
  dsimp only
  go_wp2
  go_loopg [5, 6] ts.length (fun g8 s5 s6 wr => ∃ (i j : Nat) (R : List Tok), s5 = .int .i64 i ∧ s6 = .int .i64 j ∧ ts.length - j ≤ g8 ∧ i < j ∧ j ≤ ts.length ∧ Hid (DelInv ts R i j) ∧ Hid (DelW w wr base g cap ts.length R))
  case atStart => exact ⟨D, D + 1, ts, rfl, by go_num, by omega, by omega, by omega, HI, HW⟩
  case round =>
    obtain ⟨i, j, R, rfl, rfl, hg, hij, hj, hI, hW⟩ := hrel
    clear HI HW hneg
    by_cases hlt : j < ts.length
    · have hRl : j < R.length := by rw [hI.out.len]; exact hlt
      obtain ⟨e0, e1, e2⟩ := tok_cells_n hW.out.own hI.out.len j hRl
      obtain ⟨t, ht⟩ : ∃ t, ts[j] = t := ⟨_, rfl⟩
      rw [hI.out.get hlt, ht] at e0 e1 e2
      have hil : i < R.length := by omega
      have HRl := Lib.hid hI.out.len
      cases hn : namedB t.1 with
      | false =>
        have hI2 := Lib.hid (hI.out.drop hlt (by rw [ht]; exact hn))
        have HN : Hid (namedB t.1 = !true) := hn
        clear hn ht hI
        go_wp2_with (go_at_call 59; refine (names1_to true _ _ _ _ HN.out).mono ?_; rintro e w2 ⟨rfl, hb2⟩)
        have hb3 := Lib.hid (Below.next ((Below.refl _ wr).alloc (Nat.le_refl _) (.cells #[.int .i64 t.1, .int .i64 (t.2.1 : Nat), .int .i64 (t.2.2 : Nat)] 51)) (Nat.le_refl _) hb2)
        clear hb2
        go_roundg (ts.length - (j + 1))
        case measure => omega
        case rel => exact ⟨i, j + 1, R, rfl, by go_num, Nat.le_refl _, by omega, by omega, hI2, ⟨own_later hW.out.own hb3.out, hW.out.grown.trans (grown_of_below hb3.out _)⟩⟩
      | true =>
        have hI2 := Lib.hid (hI.out.keep hlt (by rw [ht]; exact hn))
        rw [ht] at hI2
        have HN : Hid (namedB t.1 = !false) := hn
        clear hn ht hI
        go_wp2_with fail
        refine (names1_to false _ _ _ _ HN.out).mono ?_
        rintro e w2 ⟨rfl, hb2⟩
        have f0 : w2.cell? ⟨wr.heap.size, 0, none⟩ = some (.int .i64 t.1) := (hb2.cell (p := ⟨wr.heap.size, 0, none⟩) (by simp)).trans (new_cell _ _ _ _ _ rfl)
        have f1 : w2.cell? ⟨wr.heap.size, 1, none⟩ = some (.int .i64 (t.2.1 : Nat)) := (hb2.cell (p := ⟨wr.heap.size, 1, none⟩) (by simp)).trans (new_cell _ _ _ _ _ rfl)
        have f2 : w2.cell? ⟨wr.heap.size, 2, none⟩ = some (.int .i64 (t.2.2 : Nat)) := (hb2.cell (p := ⟨wr.heap.size, 2, none⟩) (by simp)).trans (new_cell _ _ _ _ _ rfl)
        have hb3 := Lib.hid (Below.next ((Below.refl _ wr).alloc (Nat.le_refl _) (.cells #[.int .i64 t.1, .int .i64 (t.2.1 : Nat), .int .i64 (t.2.2 : Nat)] 51)) (Nat.le_refl _) hb2)
        have hW2 : Hid (DelW w w2 base g cap ts.length R) := ⟨own_later hW.out.own hb3.out, hW.out.grown.trans (grown_of_below hb3.out _)⟩
        obtain ⟨g0, g1, g2⟩ := tok_cells_n hW2.out.own HRl.out i hil
        have z0 := hW2.out.own.frozenAt (i * 3)
        have z1 := hW2.out.own.frozenAt (i * 3 + 1)
        have z2 := hW2.out.own.frozenAt (i * 3 + 2)
        clear hb2 hb3 hW e0 e1 e2
        dsimp only
        go_wp2
        go_roundg (ts.length - (j + 1))
        case measure => omega
        case rel => exact ⟨i + 1, j + 1, R.set i t, by go_num, by go_num, Nat.le_refl _, by omega, by omega, hI2, ⟨(own_set hW2.out.own i t hil).1, hW2.out.grown.trans (own_set hW2.out.own i t hil).2⟩⟩
    · obtain rfl : j = ts.length := by omega
      obtain ⟨w2, hrun, hown, hgr⟩ := clear_own (i := i) hW.out.own hI.out.len hij
      have hfin : Hid ((ts.filter namedT).length = i ∧ R.take i = ts.filter namedT) := by
        have := hI.out.done
        refine ⟨?_, this⟩
        rw [← this, List.length_take, hI.out.len]; omega
      have HN := Lib.hid (hown)
      have HG := Lib.hid (hW.out.grown.trans hgr)
      clear hown hgr hW hI
      go_wp2
      go_ret
      rw [hfin.out.1, ← hfin.out.2]
      exact ⟨rfl, HN.out, HG.out⟩
end Go.Proofs.YtbbibngagdpdcaaGreatDoor

namespace Go.Proofs.YtbbibngagdpdcaaGreatDoor
open Go Go.RowKit
open Go.Shelf

theorem dropAt_lt (ts : List Tok) (h : ∃ t ∈ ts, namedB t.1 = false) : dropAt ts < ts.length := by
  induction ts with
  | nil => obtain ⟨t, ht, _⟩ := h; simp at ht
  | cons x r ih =>
    unfold dropAt
    cases hx : namedB x.1 with
    | true =>
      rw [if_pos rfl]
      obtain ⟨t, ht, hn⟩ := h
      rcases List.mem_cons.1 ht with rfl | ht
      · rw [hx] at hn; cases hn
      · have := ih ⟨t, ht, hn⟩
        simp only [List.length_cons]; omega
    | false =>
      rw [if_neg (by decide)]
      simp

theorem scan_ends (l : List UInt8) : ∀ (f k : Nat), l.length - k < f → k ≤ l.length → (0, l.length, l.length) ∈ scanGo f l k ∧ (scanGo f l k).length ≤ l.length - k + 1
  | 0, _, h, _ => by omega
  | f + 1, k, h, hk => by
    unfold scanGo
    by_cases hlt : k < l.length
    · have hb := tok_bounds l k hlt
      rw [if_pos hlt]
      obtain ⟨h1, h2⟩ := scan_ends l f (tok l k).2 (by omega) hb.2
      refine ⟨List.mem_cons_of_mem _ h1, ?_⟩
      simp only [List.length_cons]
      omega
    · rw [if_neg hlt]
      simp

theorem names_any (s : ByteArray) (w : World) (hs : s.size ≤ 4000000000) :
    Calls Tryz.prog 42 #[.string s] w fun e w' => ∃ g cap, e = .returned (.slice (some ⟨g, 0, none⟩) (namesL s.data.toList).length cap) ∧ w'.ownsRow (w.heap.size + 1) 51 3 (.slice (some ⟨g, 0, none⟩) (namesL s.data.toList).length cap) (namesL s.data.toList).length ((namesL s.data.toList).flatMap tokCells) ∧ Below w.heap.size w w' := by
  have hlen : s.data.toList.length = s.size := by simp
  obtain ⟨h1, h2⟩ := scan_ends s.data.toList (s.data.toList.length + 1) 0 (by omega) (Nat.zero_le _)
  have hd := dropAt_lt (scanL s.data.toList) ⟨_, h1, rfl⟩
  have hle : (scanL s.data.toList).length ≤ 5000000000 := by unfold scanL; omega
  have hpos : 0 < (scanL s.data.toList).length := by omega
  clear h1 h2 hlen
  unfold namesL
  obtain ⟨L, hL⟩ : ∃ L, scanL s.data.toList = L := ⟨_, rfl⟩
  have hscan := scan_any s
  rw [hL] at hd hle hpos hscan ⊢
  have HS := Lib.hid hscan
  clear hL hscan
  go_enter Tryz.func42, Tryz.ntmps42
  go_wp2_with fail
  refine (HS.out _ hs).mono ?_
  rintro e w1 ⟨v, rfl, hown, hb1⟩
  rcases hown.2 with ⟨_, h0⟩ | ⟨g, cap, cur, rfl, hg, _⟩
  · omega
  have HO := Lib.hid hown
  have HB := Lib.hid hb1
  clear hown hb1
  dsimp only
  go_wp2_with fail
  refine (delete_any (w.heap.size + 1) g cap L _ hle HO.out hd).mono ?_
  rintro e w2 ⟨rfl, hown2, hgr⟩
  have HO2 := Lib.hid hown2
  have HB2 := Lib.hid (HB.out.grown hgr HB.out.size (fun k hk => by cases hk; omega))
  clear hown2 hgr HB HO
  go_wp2
  go_ret
  exact ⟨g, cap, rfl, HO2.out, HB2.out⟩
end Go.Proofs.YtbbibngagdpdcaaGreatDoor
