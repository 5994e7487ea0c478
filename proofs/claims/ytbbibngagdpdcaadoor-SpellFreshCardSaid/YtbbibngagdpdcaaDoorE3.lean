import Derived.Test.YtbbibngagdpdcaaDoorE2
namespace Go.Proofs.YtbbibngagdpdcaaDoor
open Go Go.RowKit
open Go.Shelf

/-- THE WORLD ONE STEP ON: the example's file laid in a row of its own. -/
abbrev exRow (w : World) : World := w.alloc (.cells #[.string ⟨#[]⟩, .string ⟨#[118, 97, 108, 32, 120, 32, 61, 32, 121, 32, 43, 32, 49]⟩] 29)

theorem exRow_below (w : World) : Below w.heap.size w (exRow w) := (Below.refl _ w).alloc (Nat.le_refl _) _
theorem exRow_tab {w : World} (h : TabOk w) : TabOk (exRow w) := h.later (exRow_below w)

theorem fresh_exx (w : World) (ht : TabOk w) (b : Nat) (hb : b = w.heap.size) :
    Calls Tryd.prog 7 #[.string ⟨#[120]⟩, .slice (some ⟨b, 0, none⟩) 1 1] (exRow w) fun e w' => e = .returned (.tuple #[.string ⟨#[122]⟩, .bool true]) ∧ Below w.heap.size w w' := by
  subst hb
  refine (fresh_any [exF] _ ⟨#[120]⟩ (exRow w) (exRow_tab ht) (few_one exF (by decide)) (filesAt_one w exF) (by decide)).mono ?_
  rintro e w' ⟨r, b, hF, rfl, hb⟩
  obtain ⟨rfl, rfl⟩ := ex_x hF
  exact ⟨rfl, Below.next (exRow_below w) (Nat.le_refl _) hb⟩

theorem fresh_explus (w : World) (ht : TabOk w) (b : Nat) (hb : b = w.heap.size) :
    Calls Tryd.prog 7 #[.string ⟨#[43]⟩, .slice (some ⟨b, 0, none⟩) 1 1] (exRow w) fun e w' => e = .returned (.tuple #[.string ⟨#[43, 43]⟩, .bool true]) ∧ Below w.heap.size w w' := by
  subst hb
  refine (fresh_any [exF] _ ⟨#[43]⟩ (exRow w) (exRow_tab ht) (few_one exF (by decide)) (filesAt_one w exF) (by decide)).mono ?_
  rintro e w' ⟨r, b, hF, rfl, hb⟩
  obtain ⟨rfl, rfl⟩ := ex_plus hF
  exact ⟨rfl, Below.next (exRow_below w) (Nat.le_refl _) hb⟩

theorem taken_ex (w : World) (b : Nat) (hb : b = w.heap.size) :
    Calls Tryd.prog 9 #[.slice (some ⟨b, 0, none⟩) 1 1] (exRow w) fun e w' => ∃ v, e = .returned v ∧ StrsAt w' v [[43], [120], [121]] ∧ Below w.heap.size w w' := by
  subst hb
  refine (taken_any [exF] _ (exRow w) (few_one exF (by decide)) (filesAt_one w exF)).mono ?_
  rintro e w' ⟨v, rfl, hown, hb⟩
  rw [ex_taken] at hown
  exact ⟨v, rfl, strs_own hown rfl, Below.next (exRow_below w) (Nat.le_refl _) hb⟩

theorem exRow_cells {w w' : World} (h : Below (w.heap.size + 1) (exRow w) w') : w'.cell? ⟨w.heap.size, 0, none⟩ = some (.string ⟨#[]⟩) ∧ w'.cell? ⟨w.heap.size, 1, none⟩ = some (.string ⟨#[118, 97, 108, 32, 120, 32, 61, 32, 121, 32, 43, 32, 49]⟩) :=
  ⟨(h.cell (p := ⟨w.heap.size, 0, none⟩) (by simp)).trans (new_cell _ _ _ _ _ rfl), (h.cell (p := ⟨w.heap.size, 1, none⟩) (by simp)).trans (new_cell _ _ _ _ _ rfl)⟩

theorem exRow_size (w : World) : w.heap.size + 1 = (exRow w).heap.size := by simp

set_option maxHeartbeats 1000000 in
theorem alive_any (w : World) (ht : TabOk w) : Calls Tryd.prog 6 #[] w fun e w' => e = .returned (.bool true) ∧ Below w.heap.size w w' := by
  have HT := Lib.hid ht
  clear ht
  go_enter Tryd.func6, Tryd.ntmps6
  go_wp2_with fail
  refine (fresh_exx (exRow w) (exRow_tab HT.out) _ (exRow_size w)).mono ?_
  rintro e w1 ⟨rfl, hb1⟩
  rw [← exRow_size] at hb1
  obtain ⟨e0, e1⟩ := exRow_cells hb1
  have HB1 := Lib.hid hb1
  clear hb1
  dsimp only
  go_wp2_with fail
  refine (fresh_explus w1 ((exRow_tab HT.out).later (by rw [← exRow_size]; exact HB1.out)) _ rfl).mono ?_
  rintro e w2 ⟨rfl, hb2⟩
  have HB2 := Lib.hid (Below.next HB1.out (exRow_size w ▸ Nat.le_refl _) hb2)
  clear hb2 e0 e1
  obtain ⟨e0, e1⟩ := exRow_cells HB2.out
  clear HB1
  dsimp only
  go_wp2_with fail
  refine (taken_ex w2 _ rfl).mono ?_
  rintro e w3 ⟨v, rfl, hs, hb3⟩
  have HB3 := Lib.hid (Below.next HB2.out (exRow_size w ▸ Nat.le_refl _) hb3)
  have HS := Lib.hid hs
  clear hb3 e0 e1 HB2 hs
  dsimp only
  go_wp2_with fail
  refine (texts_any [[43], [120], [121]] [[43], [120], [121]] v _ _ (HS.out.later ((Below.refl _ _).alloc (Nat.le_refl _) _)) (strsAt_three w3 [43] [120] [121]) (by decide) (by decide)).mono ?_
  rintro e w4 ⟨rfl, hb4⟩
  have hle : w.heap.size + 1 ≤ (exRow w).heap.size := Nat.le_of_eq (exRow_size w)
  have b5 : Below (w.heap.size + 1) (exRow w) w4 := Below.next (Below.next HB3.out hle ((Below.refl _ _).alloc (Nat.le_refl _) _)) hle hb4
  have HB4 : Hid (Below w.heap.size w w4) := Below.next (exRow_below w) (Nat.le_refl _) (by rw [← exRow_size]; exact b5)
  clear b5 hle
  clear hb4 HB3 HS
  dsimp only
  go_wp2
  go_ret
  exact ⟨rfl, HB4.out⟩
end Go.Proofs.YtbbibngagdpdcaaDoor
