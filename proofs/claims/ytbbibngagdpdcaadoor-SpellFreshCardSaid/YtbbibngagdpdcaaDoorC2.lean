import Derived.Test.YtbbibngagdpdcaaDoorC1
import Derived.Maps.AppendAt
namespace Go.Proofs.YtbbibngagdpdcaaDoor
open Go Go.RowKit
open Go.Shelf

theorem flat_set (R : List Tok) (i : Nat) (t : Tok) (h : i < R.length) :
    (((R.flatMap tokCells).set (i * 3) (.int .i64 t.1)).set (i * 3 + 1) (.int .i64 (t.2.1 : Nat))).set (i * 3 + 2) (.int .i64 (t.2.2 : Nat)) = (R.set i t).flatMap tokCells := by
  induction R generalizing i with
  | nil => simp at h
  | cons x r ih =>
    cases i with
    | zero => simp [tokCells]
    | succ i =>
      have h' : i < r.length := by simpa using h
      have key : ∀ (F : List Value) (m : Nat) (v : Value), (tokCells x ++ F).set (m + 3) v = tokCells x ++ F.set m v := fun _ _ _ => rfl
      rw [List.flatMap_cons, show (i + 1) * 3 = i * 3 + 3 by omega, key, show i * 3 + 3 + 1 = (i * 3 + 1) + 3 by omega, key, show i * 3 + 3 + 2 = (i * 3 + 2) + 3 by omega, key, ih i h', List.set_cons_succ, List.flatMap_cons]

theorem flat_take (R : List Tok) : ∀ i, (R.flatMap tokCells).take (i * 3) = (R.take i).flatMap tokCells := by
  induction R with
  | nil => intro i; simp
  | cons x r ih =>
    intro i
    cases i with
    | zero => simp
    | succ i =>
      have key : ∀ (F : List Value) (m : Nat), (tokCells x ++ F).take (m + 3) = tokCells x ++ F.take m := fun _ _ => rfl
      rw [List.flatMap_cons, show (i + 1) * 3 = i * 3 + 3 by omega, key, ih, List.take_succ_cons, List.flatMap_cons]

theorem own_set {w : World} {base g cap : Nat} {n : Nat} {R : List Tok} (h : w.ownsRow base 54 3 (.slice (some ⟨g, 0, none⟩) n cap) n (R.flatMap tokCells)) (i : Nat) (t : Tok) (hi : i < R.length) :
    (((w.setCell ⟨g, i * 3, none⟩ (.int .i64 t.1)).setCell ⟨g, i * 3 + 1, none⟩ (.int .i64 (t.2.1 : Nat))).setCell ⟨g, i * 3 + 2, none⟩ (.int .i64 (t.2.2 : Nat))).ownsRow base 54 3 (.slice (some ⟨g, 0, none⟩) n cap) n ((R.set i t).flatMap tokCells) ∧
    w.grownBy (((w.setCell ⟨g, i * 3, none⟩ (.int .i64 t.1)).setCell ⟨g, i * 3 + 1, none⟩ (.int .i64 (t.2.1 : Nat))).setCell ⟨g, i * 3 + 2, none⟩ (.int .i64 (t.2.2 : Nat))) (some g) := by
  have s1 := h.stored (i * 3) (.int .i64 t.1)
  have s2 := s1.1.stored (i * 3 + 1) (.int .i64 (t.2.1 : Nat))
  have s3 := s2.1.stored (i * 3 + 2) (.int .i64 (t.2.2 : Nat))
  rw [flat_set R i t hi] at s3
  exact ⟨s3.1, (s1.2.trans s2.2).trans s3.2⟩

/-- clear(s[i:]) ON AN OWNED ROW OF TOKENS. -/
theorem clear_own {w : World} {base g cap : Nat} {n i : Nat} {R : List Tok} (h : w.ownsRow base 54 3 (.slice (some ⟨g, 0, none⟩) n cap) n (R.flatMap tokCells)) (hR : R.length = n) (hi : i < n) :
    ∃ w', (∀ ty, (Builtin.clear_ #[51] ty #[.slice (some ⟨g, i * 3, none⟩) (n - i) (cap - i)]).run Tryd.prog w = .ok (.tuple #[]) w') ∧
      w'.ownsRow base 54 3 (.slice (some ⟨g, 0, none⟩) i cap) i ((R.take i).flatMap tokCells) ∧ w.grownBy w' (some g) := by
  obtain ⟨hl, h2⟩ := h
  rcases h2 with ⟨h', _⟩ | ⟨g', cap', cur, h', hb, hg, hnc, hcm, hcs, htake⟩
  · cases h'
  · simp only [Value.slice.injEq, Option.some.injEq, Addr.mk.injEq, and_true, true_and] at h'
    obtain ⟨rfl, rfl⟩ := h'
    obtain ⟨m, hm⟩ : ∃ m, n - i = m + 1 := ⟨n - i - 1, by omega⟩
    have hzv : ∀ w, (zeroValue 54).run Tryd.prog w = .ok (.agg #[.int .i64 0, .int .i64 0, .int .i64 0]) w := fun w => by kernel_rfl
    obtain ⟨zs, hzs⟩ : ∃ zs, (Builtin.zeroCells #[.int .i64 0, .int .i64 0, .int .i64 0] (n - i)).toList = zs := ⟨_, rfl⟩
    have hzl : zs.length = (n - i) * 3 := by rw [← hzs, Array.length_toList, size_zeroCells]; rfl
    have hz1 : ∀ u ∈ zs, u.oneCell' = true := by
      intro u hu
      rw [← hzs] at hu
      simp only [Builtin.zeroCells, Array.toList_map, List.mem_map] at hu
      obtain ⟨q, _, rfl⟩ := hu
      have h3 : q % 3 < 3 := Nat.mod_lt _ (by decide)
      show Value.oneCell' (#[Value.int .i64 0, .int .i64 0, .int .i64 0][q % 3]!) = true
      match q % 3, h3 with
      | 0, _ | 1, _ | 2, _ => rfl
    have hst := run_storeCells_at (P := Tryd.prog) g (i * 3) 54 zs 0 cur w hg (by rw [hzl, hcs]; omega) hz1
    refine ⟨w.setRow g (cur.toList.take (i * 3) ++ zs ++ cur.toList.drop (i * 3 + zs.length)).toArray, fun ty => ?_, ⟨?_, .inr ⟨g, cap, _, rfl, hb, setRow_heap w g cur _ _ _ hg, by omega, hcm, ?_, ?_⟩⟩, ?_⟩
    · rw [hm] at hzs ⊢
      simp only [Nat.add_zero] at hst
      simp [Builtin.clear_, run_underlying Tryd.underlying51, hzv, Value.cells, hzs, hst, Result.andThen]
    · rw [flat_len, List.length_take]; omega
    · simp only [List.size_toArray, List.length_append, List.length_take, List.length_drop, Array.length_toList, hzl, hcs]
      omega
    · rw [List.append_assoc, List.take_append_of_le_length (by simp; omega), List.take_take, Nat.min_self, ← flat_take, ← htake, List.take_take, Nat.min_eq_left (by omega)]
    · exact ⟨rfl, rfl, rfl, by simp, fun k _ hk => setRow_other w g k _ (fun e => hk (by rw [e]))⟩

end Go.Proofs.YtbbibngagdpdcaaDoor
