import Derived.Test.YtbbibngagdpdcaaDoorE1
namespace Go.Proofs.YtbbibngagdpdcaaDoor
open Go Go.RowKit
open Go.Shelf

def exF : Fil := (⟨#[]⟩, ⟨#[118, 97, 108, 32, 120, 32, 61, 32, 121, 32, 43, 32, 49]⟩)

theorem firstFree_eq {sp : Int} {zs : List (List UInt8)} {K I K' I' : Nat} (h : FirstFree sp zs K I) (h' : FirstFree sp zs K' I') : K = K' ∧ I = I' := by
  have a1 := h.taken K' I' h'.lt
  have a2 := h'.taken K I h.lt
  rw [h'.free] at a1
  rw [h.free] at a2
  have b1 : ¬ (K' < K ∨ (K' = K ∧ I' < I)) := fun x => by simpa using a1 x
  have b2 : ¬ (K < K' ∨ (K = K' ∧ I < I')) := fun x => by simpa using a2 x
  omega

theorem firstRep_eq {F : Spell} {c : UInt8} {N N' : Nat} (h : FirstRep F c N) (h' : FirstRep F c N') : N = N' := by
  rcases Nat.lt_trichotomy N N' with hlt | he | hlt
  · exact absurd h.free (h'.taken N h.two hlt)
  · exact he
  · exact absurd h'.free (h.taken N' h'.two hlt)

theorem ex_spell : spellL [exF] = [([120], [(0, 4)]), ([121], [(0, 8)]), ([43], [(0, 10)])] := by decide +kernel

theorem ex_taken : takenL [exF] = [[43], [120], [121]] := by
  rw [takenL, risingL, ex_spell]
  have hp : ((([([120], [(0, 4)]), ([121], [(0, 8)]), ([43], [(0, 10)])] : Spell).map (·.1))).Perm [[43], [120], [121]] := by decide +kernel
  rw [mergeSort_of_perm hp]
  exact List.mergeSort_of_pairwise (by decide +kernel)

theorem ex_x {r : List UInt8} {b : Bool} (h : FreshIs [exF] [120] r b) : r = [122] ∧ b = true := by
  have hk : kindL [120] = 6 := by decide +kernel
  rcases h with ⟨_, hb, K, I, hF, hr⟩ | ⟨h7, _⟩ | ⟨h9, _⟩ | ⟨h6, _⟩
  · have h0 : FirstFree 1 (takenL [exF]) 0 2 := by
      refine ⟨by omega, by omega, by rw [ex_taken]; decide +kernel, fun k i hi h => ?_⟩
      have hk0 : k = 0 := by omega
      subst hk0
      have hi2 : i = 0 ∨ i = 1 := by omega
      rw [ex_taken]
      rcases hi2 with rfl | rfl <;> decide +kernel
    obtain ⟨rfl, rfl⟩ := firstFree_eq hF h0
    exact ⟨hr, hb⟩
  · rw [hk] at h7; omega
  · rw [hk] at h9; omega
  · exact absurd hk h6

theorem ex_plus {r : List UInt8} {b : Bool} (h : FreshIs [exF] [43] r b) : r = [43, 43] ∧ b = true := by
  have hk : kindL [43] = 9 := by decide +kernel
  rcases h with ⟨h6, _⟩ | ⟨h7, _⟩ | ⟨_, hb, c, t, N, he, hF, hr⟩ | ⟨_, _, h9, _⟩
  · rw [hk] at h6; omega
  · rw [hk] at h7; omega
  · cases he
    have h0 : FirstRep (spellL [exF]) 43 2 := by
      refine ⟨Nat.le_refl _, by omega, by rw [ex_spell]; decide +kernel, fun m h1 h2 => by omega⟩
    cases firstRep_eq hF h0
    exact ⟨hr, hb⟩
  · exact absurd hk h9

theorem filesAt_one (w : World) (f : Fil) : FilesAt (w.alloc (.cells #[.string f.1, .string f.2] 29)) (.slice (some ⟨w.heap.size, 0, none⟩) 1 1) [f] := by
  refine ⟨_, _, rfl, .inr ⟨w.heap.size, 0, rfl, by simp, fun j g hj => ?_⟩⟩
  cases j with
  | zero =>
    simp at hj
    subst hj
    exact ⟨new_cell _ _ _ _ _ rfl, new_cell _ _ _ _ _ rfl⟩
  | succ j => simp at hj

theorem few_one (f : Fil) (h : f.2.size ≤ 100000) : Few [f] := ⟨by simp, fun g hg => by simp at hg; subst hg; exact h⟩

theorem strsAt_three (w : World) (a b c : List UInt8) : StrsAt (w.alloc (.cells #[strV a, strV b, strV c] 9)) (.slice (some ⟨w.heap.size, 0, none⟩) 3 3) [a, b, c] := by
  refine ⟨_, _, rfl, .inr ⟨w.heap.size, 0, rfl, by simp, fun j hj => ?_⟩⟩
  match j, hj with
  | 0, _ | 1, _ | 2, _ => exact new_cell _ _ _ _ _ rfl

end Go.Proofs.YtbbibngagdpdcaaDoor
