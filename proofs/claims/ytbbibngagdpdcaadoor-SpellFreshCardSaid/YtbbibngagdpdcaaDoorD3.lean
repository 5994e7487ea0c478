import Derived.Test.YtbbibngagdpdcaaDoorD2
import Derived.Sort.KeysCollected
import Derived.Sort.OwnSorted
import Derived.Maps.RangeWalk
namespace Go.Proofs.YtbbibngagdpdcaaDoor
open Go Go.RowKit
open Go.Shelf
open Go.ChangeMaps Go.MapKept
open Go.WideElems (Fit rd rg pl rd_val elemAt rd_mk rd_key)
open Go.Maps (Keyed)
open Go.Sort

/-- THE KEYS OF A MAP OF PLACES, IN ORDER. -/
def risingL (F : Spell) : List (List UInt8) := (F.map (·.1)).mergeSort leB

theorem SpellAt.owns {w : World} {b base : Nat} {F : Spell} (h : SpellAt w b base F) : ∃ D : DataW Unit, w.ownsMap Tryd.prog 9 R0 b F.length D ∧ (strKeys D).Perm (F.map (·.1)) ∧ Maps.size D = F.length := by
  obtain ⟨hlow, es, clock, hblk, hfit, hlen, hent, hap⟩ := h
  refine ⟨_, ⟨es, clock, hblk, hfit, by rw [← Array.length_toList]; omega, rfl⟩, ?_, ?_⟩
  · have hp := (WideShapes.sorted_perm (es.toList.map (rg Tryd.prog 9 R0)))
    refine (hp.map (fun p => strOf p.1)).trans ?_
    rw [List.map_map]
    have e : es.toList.map ((fun p : Lit × DataW Unit => strOf p.1) ∘ rg Tryd.prog 9 R0) = F.map (·.1) := by
      apply List.ext_getElem (by simp; simpa using hlen)
      intro i h1 h2
      simp only [List.getElem_map, Function.comp]
      have i1 : i < es.toList.length := by simpa using h1
      have i2 : i < F.length := by simpa using h2
      obtain ⟨q1, _⟩ := hent i es.toList[i] F[i] (List.getElem?_eq_getElem i1) (List.getElem?_eq_getElem i2)
      obtain ⟨y, hy⟩ := hfit.reads es.toList[i] (List.getElem_mem _)
      have hk := rd_key hy
      obtain ⟨x, ex, hx, _⟩ := Maps.keyOf_str Tryd.underlying9 hk
      have : (rg Tryd.prog 9 R0 es.toList[i]).1 = .string x := by
        have h3 := Go.WideElems.rg_of hy
        rw [h3]
        exact hx
      rw [this]
      rw [q1] at ex
      exact (strV_inj ex).symm
    rw [e]
  · show List.length _ = _
    have hp := (WideShapes.sorted_perm (es.toList.map (rg Tryd.prog 9 R0)))
    rw [hp.length_eq, List.length_map, hlen]

set_option maxRecDepth 100000 in
set_option maxHeartbeats 1000000 in
theorem rising_any (F : Spell) (b : Nat) (w : World) (hF : F.length ≤ 100000000) (hS : SpellAt w b (b + 1) F) :
    Calls Tryd.prog 19 #[.map (some b)] w fun e w' => ∃ v, e = .returned v ∧ w'.ownsRow w.heap.size 9 1 v F.length ((risingL F).map strV) ∧ Below w.heap.size w w' := by
  obtain ⟨D0, hown, hperm, hsize⟩ := hS.owns
  obtain ⟨i0, hi, hz0, hz1, hz2⟩ := info_parts Tryd.infoStr
  have hbl := hown.lt
  have K : Keyed Tryd.prog 9 := Maps.string_keyed Tryd.underlying9
  clear hS
  go_enter Tryd.func19, Tryd.ntmps19
  go_wp2_with (first
    | (at_range; refine wpList_range_own _ rfl _ 40 rfl 9 35 K Tryd.underlying40 R0 b _ _ rfl hown ?_; intro w0 hrg0 hg0 hs0; rw [hsize] at hrg0; clear hs0)
    | go_in)
  go_frame
  go_loopg [3] F.length (fun g v wr => ∃ (left : Lit → Bool) (cnt : Nat) (ss : List (List UInt8)), cnt ≤ g ∧ wr.ranges Tryd.prog 9 R0 b w.heap.size F.length D0 left cnt ∧ ss.length + cnt ≤ F.length ∧
      wr.ownsRow w.heap.size 9 1 v ss.length (ss.map encStr) ∧ Collected D0 left ss ∧ Below w.heap.size w wr)
  case atStart =>
    exact ⟨_, _, [], by omega, hrg0, by simp, World.ownsRow_nil _ _ _ _, Collected.start D0, (Below.refl _ _).grown hg0 (Nat.le_refl _) (fun j hj => by cases hj)⟩
  case round =>
    obtain ⟨left, cnt, ss, hcg, hrg, hcs, hrow, hC, hnx⟩ := hrel
    go_wp2_with (first
      | (at_next; refine wpList_next_ranges _ rfl _ rfl 9 K R0 encStr (fun v => v) (fun key kl hk => by obtain ⟨x, hx, _⟩ := Maps.keyOf_str Tryd.underlying9 hk; exact ⟨x, hx⟩) (fun v y hv => ⟨v, rfl⟩) b w.heap.size _ _ _ _ rfl hrg ?_ ?_)
      | go_in)
    · intro hc0 hl0
      have hpp := hC.perm hown K Tryd.underlying9 hl0
      have hss : Hid (ss.mergeSort leB = risingL F) := mergeSort_of_perm (hpp.trans hperm)
      have hsl : Hid (ss.length = F.length) := by rw [Hid, (hpp.trans hperm).length_eq, List.length_map]
      rcases hrow.2 with ⟨rfl, h0⟩ | ⟨g, cap, cur, rfl, hbase, hb, h1, h2, h3, h4⟩
      · have hs0 : ss = [] := List.eq_nil_of_length_eq_zero (by simpa using h0)
        subst hs0
        have hc := Tryd.slices_Sort_string_none none 0 wr
        go_wp2_with (go_at_call 33; refine hc.mono ?_; rintro e w' ⟨rfl, rfl⟩)
        go_ret
        have hr0 : risingL F = [] := by rw [← hss.out]; simp
        refine ⟨_, rfl, ?_, hnx⟩
        rw [hr0, ← hsl.out]
        exact World.ownsRow_nil _ _ _ _
      · have hH : Holds encStr wr g 0 ss.toArray := holds_of_block hb (by simpa using h4)
        have hgl : g < wr.heap.size := (Array.getElem?_eq_some_iff.1 hb).1
        have hc := Tryd.slices_Sort_string g 0 cap ss wr hH hgl (by omega)
        go_wp2_with (go_at_call 33; refine hc.mono ?_; rintro e w' ⟨rfl, nn, os, rfl⟩)
        go_ret
        refine ⟨_, rfl, ?_, hnx.grown (grownBy_sorted _) hnx.size (fun j hj => by cases hj; exact hbase)⟩
        have := ownsRow_sorted (w := wr) (n := nn) (os := os) (ss := ss) (ts := ss.mergeSort leB) (by simp) hbase hb h1 h2 h3
        rw [hss.out, hsl.out] at this
        rw [hss.out, hsl.out]
        exact this
    · intro x c kl yd yp w2 cnt2 hkey hlk hv hat hrg2 hlt hg2 hs2 hen
      obtain ⟨x', ex, rfl, _⟩ := Maps.keyOf_str Tryd.underlying9 hkey
      obtain rfl : x = x' := encStr_inj ex
      have hrow2 := hrow.kept hg2 (Or.inr (row_ne_iter hrow hrg).symm)
      clear hs2
      go_wp2_with (first
        | (at_builtin; refine wpList_append_own _ rfl _ _ 30 rfl w.heap.size 9 i0 (.string ⟨#[]⟩) 1 16 Tryd.underlying30 hi hz0 hz1 hz2 rfl (by decide) _ _ _ rfl (hrow2.alloc _) ⟨w2.heap.size, 0, none⟩ 1 1 [encStr x] rfl rfl (cell_one_new _ _ _) (by simp [Value.oneCell', encStr]) (by unfold maxLen at *; omega) (by omega) (by have := hnx.size; have := hg2.size; simp; omega) ?_; intro v' w3 hown' hg3 hnil3; go_frame)
        | go_in)
      have hrg3 := (hrg2.alloc _).kept hg3 (row_ne_low hrow2 hbl) (row_ne_iter hrow2 hrg2)
      go_roundg cnt2
      case measure => omega
      case rel =>
        refine ⟨_, cnt2, ss ++ [x], Nat.le_refl _, hrg3, by simp; omega, by simpa using hown', hC.step hlk hat, ?_⟩
        exact ((hnx.grown hg2 hnx.size (fun j hj => by cases hj; exact Nat.le_refl _)).alloc (by have := hnx.size; have := hg2.size; omega) _).grown hg3 (by have := hnx.size; have := hg2.size; simp; omega) (fun j hj => (hrow2.lt j hj).1)
end Go.Proofs.YtbbibngagdpdcaaDoor
