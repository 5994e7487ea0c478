import Derived.WalkKit
import Derived.WalkLawsBesides
import Derived.WalkSpells
import Derived.Lib.Hide
namespace Go.Proofs.YtbbibngagdpdcaaDoor
open Go Go.RowKit

theorem wpList_value {P : Program} {w w' : World} {ops : Array Oper} {rest : List Oper} {o : Oper} {a : Act} {Q : Exit → Act → World → Prop} {v : Value}
    (hg : o.guard = none) (h : (execOp a.eval o).run P w = .ok (.value v) w') (hK : wpList P ops Q rest (a.put o.dst v) w') : wpList P ops Q (o :: rest) a w := by
  refine wpList_plain hg fun K hK' => ?_
  unfold Oper.wp
  rw [h]
  exact hK' _ _ hK

theorem setRow_alloc (w : World) (cs cs' : Array Value) (t : TypeId) : (w.alloc (.cells cs t)).setRow w.heap.size cs' = w.alloc (.cells cs' t) := by
  have h : (w.heap.push (.cells cs t)).modify w.heap.size (fun | .cells _ elem frozen => .cells cs' elem frozen | o => o) = w.heap.push (.cells cs' t) := by
    apply Array.ext_getElem?
    intro i
    rw [Array.getElem?_modify, Array.getElem?_push, Array.getElem?_push]
    by_cases hi : w.heap.size = i
    · subst hi; simp
    · rw [if_neg hi, if_neg (fun e => hi e.symm), if_neg (fun e => hi e.symm)]
  exact congrArg (fun hp => ({ w with heap := hp } : World)) h

theorem new_cell (w : World) (b j : Nat) (cs : Array Value) (t : TypeId) (h : b = w.heap.size) : (w.alloc (.cells cs t)).cell? ⟨b, j, none⟩ = cs[j]? := by
  subst h
  exact cell_of_row _ _ _ _ _ _ (heap_alloc_new w _)

theorem ownsRow_base {w : World} {base base' : Nat} {e : TypeId} {size : Nat} {v : Value} {n : Nat} {xs : List Value} (h : w.ownsRow base e size v n xs) (hb : base' ≤ base) : w.ownsRow base' e size v n xs := by
  obtain ⟨h1, h2⟩ := h
  refine ⟨h1, ?_⟩
  rcases h2 with h2 | ⟨g, cap, cur, h3, h4, h5⟩
  · exact .inl h2
  · exact .inr ⟨g, cap, cur, h3, Nat.le_trans hb h4, h5⟩

theorem below_draws {B : Nat} {a w : World} (h : Below B a w) (n : Nat) : Below B a (w.drewN n) := h.trans ⟨rfl, rfl, rfl, Nat.le_refl _, fun _ _ => rfl⟩

/-- A WHOLE ROW STORED INTO A BLOCK THAT HAS JUST BEEN LAID. -/
theorem wpList_store_row {P : Program} {w : World} {ops : Array Oper} {rest : List Oper} {o : Oper} {a : Act} {Q : Exit → Act → World → Prop}
    (hg : o.guard = none) (ty : TypeId) (x y : Operand) (hop : o.op = Op.store ty x y) (t : TypeId) (cs : Array Value) (hx : a.eval x = .pointer (some ⟨w.heap.size, 0, none⟩))
    (v : Value) (hy : a.eval y = v) (hs : v.cells.size = cs.size) (hi : (P.info? ty).map (·.size) = some cs.size) (h1 : ∀ u ∈ v.cells.toList, u.oneCell' = true)
    (hK : wpList P ops Q rest (a.put o.dst undef) (w.alloc (.cells v.cells t))) : wpList P ops Q (o :: rest) a (w.alloc (.cells cs t)) := by
  refine wpList_plain hg fun K hK' => ?_
  have hst := run_storeCells_at (P := P) w.heap.size 0 t v.cells.toList 0 cs (w.alloc (.cells cs t)) (heap_alloc_new w _) (by simp [hs]) h1
  have e : (cs.toList.take (0 + 0) ++ v.cells.toList ++ cs.toList.drop (0 + 0 + v.cells.toList.length)).toArray = v.cells := by
    rw [Nat.zero_add, List.take_zero, List.nil_append, List.drop_eq_nil_of_le (by simp [hs]), List.append_nil, Array.toArray_toList]
  rw [e, setRow_alloc] at hst
  cases hq : P.info? ty with
  | none => simp [hq] at hi
  | some i =>
    have hsz : i.size = cs.size := by simpa [hq] using hi
    unfold Oper.wp
    simp [execOp, hop, hx, hy, Instr.storeAt, Instr.sureAddr, storeVar, sizeOf, typeInfo, hq, hsz, hs, hst, Result.andThen]
    exact hK' _ _ hK
end Go.Proofs.YtbbibngagdpdcaaDoor
