import Derived.Test.YtbbibngagdpdcaaDoorA2
import Derived.Test.YtbbibngagdpdcaaDoorK0
import Derived.Shelf.Spec.SearchS
namespace Go.Proofs.YtbbibngagdpdcaaDoor
open Go Go.RowKit
open Go.Shelf

/-- The keywords but the last one, in order. -/
def kw24 : List (List UInt8) := [[97, 110, 100],
  [97, 115],
  [99, 97, 115, 101],
  [100, 97, 116, 97, 116, 121, 112, 101],
  [101, 108, 115, 101],
  [101, 110, 100],
  [102, 110],
  [102, 117, 110],
  [102, 117, 110, 99, 116, 111, 114],
  [105, 102],
  [105, 110],
  [105, 110, 99, 108, 117, 100, 101],
  [108, 101, 116],
  [108, 111, 99, 97, 108],
  [111, 102],
  [111, 112],
  [111, 112, 101, 110],
  [115, 105, 103],
  [115, 105, 103, 110, 97, 116, 117, 114, 101],
  [115, 116, 114, 117, 99, 116],
  [115, 116, 114, 117, 99, 116, 117, 114, 101],
  [116, 104, 101, 110],
  [116, 121, 112, 101],
  [118, 97, 108]]
def kwTab : List (List UInt8) := kw24 ++ [[119, 104, 101, 114, 101]]
def strV (l : List UInt8) : Value := .string ⟨l.toArray⟩
def kwArr : Array Value := (kw24.map strV).toArray
def zArr : Array Value := Array.replicate 24 (.string ⟨#[]⟩)

theorem kw_build (a : Act) (w : World) (dst : Option Tmp) (pos : String) (after : Array Edge) (g : Option (Nat × Bool)) :
    (execOp a.eval { dst := dst, op := Op.build 71 #[(0, .const (.string ⟨#[97, 110, 100]⟩)), (1, .const (.string ⟨#[97, 115]⟩)), (2, .const (.string ⟨#[99, 97, 115, 101]⟩)), (3, .const (.string ⟨#[100, 97, 116, 97, 116, 121, 112, 101]⟩)), (4, .const (.string ⟨#[101, 108, 115, 101]⟩)), (5, .const (.string ⟨#[101, 110, 100]⟩)), (6, .const (.string ⟨#[102, 110]⟩)), (7, .const (.string ⟨#[102, 117, 110]⟩)), (8, .const (.string ⟨#[102, 117, 110, 99, 116, 111, 114]⟩)), (9, .const (.string ⟨#[105, 102]⟩)), (10, .const (.string ⟨#[105, 110]⟩)), (11, .const (.string ⟨#[105, 110, 99, 108, 117, 100, 101]⟩)), (12, .const (.string ⟨#[108, 101, 116]⟩)), (13, .const (.string ⟨#[108, 111, 99, 97, 108]⟩)), (14, .const (.string ⟨#[111, 102]⟩)), (15, .const (.string ⟨#[111, 112]⟩)), (16, .const (.string ⟨#[111, 112, 101, 110]⟩)), (17, .const (.string ⟨#[115, 105, 103]⟩)), (18, .const (.string ⟨#[115, 105, 103, 110, 97, 116, 117, 114, 101]⟩)), (19, .const (.string ⟨#[115, 116, 114, 117, 99, 116]⟩)), (20, .const (.string ⟨#[115, 116, 114, 117, 99, 116, 117, 114, 101]⟩)), (21, .const (.string ⟨#[116, 104, 101, 110]⟩)), (22, .const (.string ⟨#[116, 121, 112, 101]⟩)), (23, .const (.string ⟨#[118, 97, 108]⟩))], type := 71, pos := pos, after := after, guard := g }).run Tryd.prog w = .ok (.value (.agg kwArr)) w := by kernel_rfl

theorem kw_alloc (a : Act) (w : World) (dst : Option Tmp) (ty : TypeId) (pos : String) (after : Array Edge) (g : Option (Nat × Bool)) :
    (execOp a.eval { dst := dst, op := Op.alloc 71, type := ty, pos := pos, after := after, guard := g }).run Tryd.prog w = .ok (.value (.pointer (some ⟨w.heap.size, 0, none⟩))) (w.alloc (.cells zArr 71)) := by kernel_rfl

theorem info24 : (Tryd.prog.info? 71).map (·.size) = some 24 := by kernel_rfl

set_option maxHeartbeats 400000 in
theorem keywords_any (w : World) : Calls Tryd.prog 50 #[] w fun e w' => e = .returned (.agg kwArr) ∧ w' = w.alloc (.cells kwArr 71) := by
  go_enter Tryd.func50, Tryd.ntmps50
  go_step
  go_step
  go_step
  refine wpList_value rfl (kw_alloc _ _ _ _ _ _ _) ?_
  go_step
  go_step
  go_step
  go_step
  go_step
  refine wpList_value rfl (kw_build _ _ _ _ _ _) ?_
  refine wpList_store_row rfl 71 (.tmp 0) (.tmp 1) rfl _ zArr rfl (.agg kwArr) rfl rfl info24 (by decide) ?_
  go_step
  go_step
  go_step
  go_step
  refine bodyPost_ret (v := .agg kwArr) (results_cell_row (g := w.heap.size) (t := 71) (cs := kwArr) (fr := (0, 0)) (d := .array 24 9) rfl _ _ rfl (heap_alloc_new w _) ?_ rfl info24) rfl ⟨rfl, rfl⟩
  kernel_rfl

theorem kwTab_cell (w : World) (j : Nat) (u : Value) (b : Nat) (t : TypeId) (fr : Nat × Nat) (hb : w.heap[b]? = some (.cells kwArr t fr)) (h : (kw24.map strV)[j]? = some u) : w.cell? ((⟨b, 0, none⟩ : Addr).add j) = some u := by
  have hadd : (⟨b, 0, none⟩ : Addr).add j = ⟨b, j, none⟩ := by unfold Addr.add; split <;> simp_all
  rw [hadd, cell_of_row w b j kwArr t fr hb]
  simpa [kwArr] using h

theorem Tryd.infoStr : (Tryd.prog.info? 9).map (fun i => (i.zero, i.size, i.bytes)) = some (some (.string ⟨#[]⟩), 1, 16) := by kernel_rfl

set_option maxHeartbeats 400000 in
theorem Keywords_any (w : World) : Calls Tryd.prog 38 #[] w fun e w' => ∃ v, e = .returned v ∧ w'.ownsRow w.heap.size 9 1 v 25 (kwTab.map strV) ∧ Below w.heap.size w w' := by
  obtain ⟨i0, hi, hz0, hz1, hz2⟩ := info_parts Tryd.infoStr
  go_enter Tryd.func38, Tryd.ntmps38
  go_wp2_with fail
  refine (keywords_any _).mono ?_
  rintro e w' ⟨rfl, rfl⟩
  dsimp only
  go_step
  refine wpList_value rfl (kw_alloc _ _ _ _ _ _ _) ?_
  refine wpList_store_row rfl 71 (.tmp 1) (.tmp 2) rfl _ zArr rfl (.agg kwArr) rfl rfl info24 (by decide) ?_
  go_step
  go_step
  go_step
  go_step
  go_step
  go_step
  go_step
  go_step
  go_step
  go_step
  go_step
  refine wpList_append_grows _ rfl (.tmp 3) (.tmp 4) 30 rfl 9 i0 (.string ⟨#[]⟩) 1 16 Tryd.underlying30 hi hz0 hz1 hz2 rfl (by decide)
    (some ⟨w.heap.size + 1, 0, none⟩) 24 24 (kw24.map strV) rfl (fun h => by cases h) rfl ?c0 ⟨w.heap.size + 1 + 1, 0, none⟩ 1 1 [strV [119, 104, 101, 114, 101]] rfl rfl ?c1 ?c2 (by decide) (by unfold maxLen; decide) (by decide) ?_
  case c0 =>
    intro b hb j u hu
    cases hb
    refine kwTab_cell _ _ _ _ 71 (0, 0) ?_ hu
    rw [Below.heap_alloc _ _ _ (by simp)]
    simpa using heap_alloc_new (w.alloc (.cells kwArr 71)) (.cells kwArr 71)
  case c1 =>
    intro j u hj
    match j, hj with
    | 0, hj =>
      simp at hj
      subst hj
      rw [show ((⟨w.heap.size + 1 + 1, 0, none⟩ : Addr).add 0) = ⟨w.heap.size + 1 + 1, 0, none⟩ from rfl, new_cell _ _ _ _ _ (by simp)]
      rfl
  case c2 => intro u hu; simp at hu; subst hu; rfl
  intro v' w' hown hgrow
  have hb : Below w.heap.size w w' := (((((Below.refl _ w).alloc (Nat.le_refl _) _).alloc (by simp) _).alloc (by simp; omega) _).grown hgrow (by simp; omega) (fun k hk => by cases hk))
  have hown' : w'.ownsRow w.heap.size 9 1 v' 25 (kwTab.map strV) := ownsRow_base hown (by simp; omega)
  clear hown hgrow
  go_wp2
  go_ret
  exact ⟨_, rfl, hown', hb⟩
end Go.Proofs.YtbbibngagdpdcaaDoor
