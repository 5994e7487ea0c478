import Derived.Test.YtbbibngagdpdcaaDoorA8
namespace Go.Proofs.YtbbibngagdpdcaaDoor
open Go Go.RowKit
open Go.Shelf

theorem conv_one (w : World) (c : Int) :
    (convert 65 9 (.slice (some ⟨w.heap.size, 0, none⟩) 1 1)).run Tryd.prog (w.alloc (.cells #[.int .u8 c] 5)) = .ok (.string ⟨#[UInt8.ofNat c.toNat]⟩) (w.alloc (.cells #[.int .u8 c] 5)) := by
  rw [run_convert_bytes_string _ _ _ 5 _ _ _ Tryd.underlying65 Tryd.underlying5 Tryd.underlying9]
  have h := run_loadCells_list (P := Tryd.prog) (w.alloc (.cells #[.int .u8 c] 5)) ⟨w.heap.size, 0, none⟩ [.int .u8 c] (fun j v hv => by
    match j, hv with
    | 0, hv =>
      simp at hv
      subst hv
      rw [show ((⟨w.heap.size, 0, none⟩ : Addr).add 0) = ⟨w.heap.size, 0, none⟩ from rfl, new_cell _ _ _ _ _ rfl]
      rfl)
  rw [run_bytesToString _ ⟨w.heap.size, 0, none⟩ 1 1 [c] h]
  rfl

set_option maxHeartbeats 400000 in
theorem lrest_walk (c : Int) (w : World) : Calls Tryd.prog 78 #[.int .u8 c] w fun e w' => e = .returned (.bool (kindL [97, UInt8.ofNat c.toNat] != 0)) ∧ Below w.heap.size w w' := by
  have hcv := conv_one w c
  have hadd : ∀ W : World, (Op.stringOp .add ⟨#[97]⟩ ⟨#[UInt8.ofNat c.toNat]⟩).run Tryd.prog W = .ok (.string ⟨#[97, UInt8.ofNat c.toNat]⟩) W := fun W => run_string_add_sum W ⟨#[97]⟩ ⟨#[UInt8.ofNat c.toNat]⟩ (show 1 + 1 ≤ 9223372036854775807 by omega)
  go_enter Tryd.func78, Tryd.ntmps78
  go_wp2_with (go_at_call 14; refine (kind_any ⟨#[97, UInt8.ofNat c.toNat]⟩ _ (show 2 ≤ 140737488351232 by omega)).mono ?_; rintro e w' ⟨rfl, hb⟩)
  go_ret
  exact ⟨rfl, Below.next ((Below.refl _ w).alloc (Nat.le_refl _) _) (Nat.le_refl _) hb⟩

set_option maxHeartbeats 400000 in
theorem lsign_walk (c : Int) (w : World) : Calls Tryd.prog 79 #[.int .u8 c] w fun e w' => e = .returned (.bool (kindL [43, UInt8.ofNat c.toNat] == 9)) ∧ Below w.heap.size w w' := by
  have hcv := conv_one w c
  have hadd : ∀ W : World, (Op.stringOp .add ⟨#[43]⟩ ⟨#[UInt8.ofNat c.toNat]⟩).run Tryd.prog W = .ok (.string ⟨#[43, UInt8.ofNat c.toNat]⟩) W := fun W => run_string_add_sum W ⟨#[43]⟩ ⟨#[UInt8.ofNat c.toNat]⟩ (show 1 + 1 ≤ 9223372036854775807 by omega)
  go_enter Tryd.func79, Tryd.ntmps79
  go_wp2_with (go_at_call 14; refine (kind_any ⟨#[43, UInt8.ofNat c.toNat]⟩ _ (show 2 ≤ 140737488351232 by omega)).mono ?_; rintro e w' ⟨rfl, hb⟩)
  go_ret
  exact ⟨rfl, Below.next ((Below.refl _ w).alloc (Nat.le_refl _) _) (Nat.le_refl _) hb⟩

theorem rest_bytes : ∀ n : Fin 256, (kindL [97, UInt8.ofNat n.val] != 0) = restB n.val := by decide +kernel
theorem sign_bytes : ∀ n : Fin 256, (kindL [43, UInt8.ofNat n.val] == 9) = signB n.val := by decide +kernel

theorem rest_byte (c : Int) (h0 : 0 ≤ c) (h1 : c ≤ 255) : (kindL [97, UInt8.ofNat c.toNat] != 0) = restB c := by
  have := rest_bytes ⟨c.toNat, by omega⟩
  rw [this]
  exact congrArg restB (Int.toNat_of_nonneg h0)
theorem sign_byte (c : Int) (h0 : 0 ≤ c) (h1 : c ≤ 255) : (kindL [43, UInt8.ofNat c.toNat] == 9) = signB c := by
  have := sign_bytes ⟨c.toNat, by omega⟩
  rw [this]
  exact congrArg signB (Int.toNat_of_nonneg h0)
end Go.Proofs.YtbbibngagdpdcaaDoor
