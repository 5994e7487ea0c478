import Derived.Test.YtbbibngagdpdcaaDoorC3
namespace Go.Proofs.YtbbibngagdpdcaaDoor
open Go Go.RowKit
open Go.Shelf

theorem dropAt_lt (ts : List Tok) (h : ∃ t ∈ ts, namedB t.1 = false) : dropAt ts < ts.length := by
  induction ts with
  | nil => obtain ⟨t, ht, _⟩ := h; simp at ht
  | cons x r ih =>
    unfold dropAt
    cases hx : namedB x.1 with
    | true =>
      rw [if_pos rfl]
      obtain ⟨t, ht, hn⟩ := h
      rcases List.mem_cons.1 ht with rfl | ht
      · rw [hx] at hn; cases hn
      · have := ih ⟨t, ht, hn⟩
        simp only [List.length_cons]; omega
    | false =>
      rw [if_neg (by decide)]
      simp

theorem scan_ends (l : List UInt8) : ∀ (f k : Nat), l.length - k < f → k ≤ l.length → (0, l.length, l.length) ∈ scanGo f l k ∧ (scanGo f l k).length ≤ l.length - k + 1
  | 0, _, h, _ => by omega
  | f + 1, k, h, hk => by
    unfold scanGo
    by_cases hlt : k < l.length
    · have hb := tok_bounds l k hlt
      rw [if_pos hlt]
      obtain ⟨h1, h2⟩ := scan_ends l f (tok l k).2 (by omega) hb.2
      refine ⟨List.mem_cons_of_mem _ h1, ?_⟩
      simp only [List.length_cons]
      omega
    · rw [if_neg hlt]
      simp

theorem names_any (s : ByteArray) (w : World) (hs : s.size ≤ 4000000000) :
    Calls Tryd.prog 31 #[.string s] w fun e w' => ∃ g cap, e = .returned (.slice (some ⟨g, 0, none⟩) (namesL s.data.toList).length cap) ∧ w'.ownsRow (w.heap.size + 1) 54 3 (.slice (some ⟨g, 0, none⟩) (namesL s.data.toList).length cap) (namesL s.data.toList).length ((namesL s.data.toList).flatMap tokCells) ∧ Below w.heap.size w w' := by
  have hlen : s.data.toList.length = s.size := by simp
  obtain ⟨h1, h2⟩ := scan_ends s.data.toList (s.data.toList.length + 1) 0 (by omega) (Nat.zero_le _)
  have hd := dropAt_lt (scanL s.data.toList) ⟨_, h1, rfl⟩
  have hle : (scanL s.data.toList).length ≤ 5000000000 := by unfold scanL; omega
  have hpos : 0 < (scanL s.data.toList).length := by omega
  clear h1 h2 hlen
  unfold namesL
  obtain ⟨L, hL⟩ : ∃ L, scanL s.data.toList = L := ⟨_, rfl⟩
  have hscan := scan_any s
  rw [hL] at hd hle hpos hscan ⊢
  have HS := Lib.hid hscan
  clear hL hscan
  go_enter Tryd.func31, Tryd.ntmps31
  go_wp2_with fail
  refine (HS.out _ hs).mono ?_
  rintro e w1 ⟨v, rfl, hown, hb1⟩
  rcases hown.2 with ⟨_, h0⟩ | ⟨g, cap, cur, rfl, hg, _⟩
  · omega
  have HO := Lib.hid hown
  have HB := Lib.hid hb1
  clear hown hb1
  dsimp only
  go_wp2_with fail
  refine (delete_any (w.heap.size + 1) g cap L _ hle HO.out hd).mono ?_
  rintro e w2 ⟨rfl, hown2, hgr⟩
  have HO2 := Lib.hid hown2
  have HB2 := Lib.hid (HB.out.grown hgr HB.out.size (fun k hk => by cases hk; omega))
  clear hown2 hgr HB HO
  go_wp2
  go_ret
  exact ⟨g, cap, rfl, HO2.out, HB2.out⟩
end Go.Proofs.YtbbibngagdpdcaaDoor
