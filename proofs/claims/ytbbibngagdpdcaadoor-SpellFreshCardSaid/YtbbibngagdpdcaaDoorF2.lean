import Derived.Test.YtbbibngagdpdcaaDoorF1
namespace Go.Proofs.YtbbibngagdpdcaaDoor
open Go Go.RowKit
open Go.Shelf

set_option maxHeartbeats 1000000 in
theorem fresh_many (fs : List Fil) (v : Value) (s : ByteArray) (w : World) (ht : TabOk w) (hv : FilesAt w v fs) (hbig : fs.length ≤ 9223372036854775807)
    (hs : ∀ f ∈ fs, f.1.size ≤ 9223372036854775807 ∧ f.2.size ≤ 9223372036854775807) (hfew : fewB fs = false) :
    Calls Tryd.prog 3 #[v, .string s] w fun e w' => e = .returned (.bool true) ∧ Below w.heap.size w w' := by
  have hfc := few_any fs _ w hv hbig hs
  rw [hfew] at hfc
  have HFC := Lib.hid hfc
  have HT := Lib.hid ht
  obtain ⟨a, c, rfl, _⟩ := id hv
  clear hv ht hs hfc hfew
  go_enter Tryd.func3, Tryd.ntmps3
  go_wp2_with fail
  refine HFC.out.mono ?_
  rintro e w1 ⟨rfl, hb1⟩
  have HB1 := Lib.hid hb1
  clear hb1 HFC
  dsimp only
  go_wp2_with fail
  refine (alive_any w1 (HT.out.later HB1.out)).mono ?_
  rintro e w2 ⟨rfl, hb2⟩
  go_wp2
  go_ret
  exact ⟨rfl, Below.next HB1.out (Nat.le_refl _) hb2⟩

set_option maxHeartbeats 1000000 in
theorem fresh_long (fs : List Fil) (v : Value) (s : ByteArray) (w : World) (ht : TabOk w) (hv : FilesAt w v fs) (hbig : fs.length ≤ 9223372036854775807)
    (hs : ∀ f ∈ fs, f.1.size ≤ 9223372036854775807 ∧ f.2.size ≤ 9223372036854775807) (hfew : fewB fs = true) (hs1 : 100 < s.size) (hs3 : s.size ≤ 9223372036854775807) :
    Calls Tryd.prog 3 #[v, .string s] w fun e w' => e = .returned (.bool true) ∧ Below w.heap.size w w' := by
  have hfc := few_any fs _ w hv hbig hs
  rw [hfew] at hfc
  have HFC := Lib.hid hfc
  have HT := Lib.hid ht
  obtain ⟨a, c, rfl, _⟩ := id hv
  clear hv ht hs hfc hfew
  go_enter Tryd.func3, Tryd.ntmps3
  go_wp2_with fail
  refine HFC.out.mono ?_
  rintro e w1 ⟨rfl, hb1⟩
  have HB1 := Lib.hid hb1
  clear hb1 HFC
  dsimp only
  have hs2 : (100 : Int) < (s.size : Int) := by omega
  go_wp2_with fail
  refine (alive_any w1 (HT.out.later HB1.out)).mono ?_
  rintro e w2 ⟨rfl, hb2⟩
  go_wp2
  go_ret
  exact ⟨rfl, Below.next HB1.out (Nat.le_refl _) hb2⟩

theorem fresh_all (fs : List Fil) (v : Value) (s : ByteArray) (w : World) (ht : TabOk w) (hv : FilesAt w v fs) (hnil : v = .slice none 0 0 ∨ ∃ ad n c, v = .slice (some ad) n c) (hbig : fs.length ≤ 9223372036854775807)
    (hs : ∀ f ∈ fs, f.1.size ≤ 9223372036854775807 ∧ f.2.size ≤ 9223372036854775807) (hs3 : s.size ≤ 9223372036854775807) :
    Calls Tryd.prog 3 #[v, .string s] w fun e w' => e = .returned (.bool true) ∧ Below w.heap.size w w' := by
  cases hfew : fewB fs with
  | false => exact fresh_many fs v s w ht hv hbig hs hfew
  | true =>
    by_cases hs1 : s.size ≤ 100
    · exact fresh_tail fs v s w ht hv hnil hbig hs hs1 hfew
    · exact fresh_long fs v s w ht hv hbig hs hfew (by omega) hs3
end Go.Proofs.YtbbibngagdpdcaaDoor
