/-
  PROVED HERE: a part of the proof of the card 'SpellTellsCardSaid': what functions of the program, or of the document's packages, that SpellTells reaches compute (texts A2, K0, A3). CONDITIONS: each theorem's own.
-/
import Derived.Test.YtbbibngagdpdcaaGreatDoorM01
import Derived.Test.YtbbibngagdpdcaaGreatDoorShelf
import Derived.Lib.IndexAny
import Derived.WalkKit
import Derived.WalkLawsBesides
import Derived.WalkSpells
import Derived.Lib.Hide
import Derived.Shelf.Spec.SearchS
namespace Go.Proofs.YtbbibngagdpdcaaGreatDoor
open Go Go.RowKit

def reservedB (l : List UInt8) : Bool := decide (l = [61]) || (decide (l = [61, 62]) || (decide (l = [124]) || (decide (l = [58]) || (decide (l = [58, 62]) || decide (l = [45, 62])))))
def oneMark (l : List UInt8) : Bool := match l with | [c] => ([40, 41, 44, 46, 59, 95] : List UInt8).contains c | _ => false
def markB (l : List UInt8) : Bool := reservedB l || oneMark l

theorem bytes_one (s : ByteArray) (h : s.size = 1) : ∃ c, s = ⟨#[c]⟩ := by
  obtain ⟨⟨l⟩⟩ := s
  match l, h with
  | [c], _ => exact ⟨c, rfl⟩

theorem oneMark_short (l : List UInt8) (h : l.length ≠ 1) : oneMark l = false := by
  unfold oneMark
  split
  · exact absurd rfl h
  · rfl

set_option maxHeartbeats 400000 in
theorem reserved_any (s : ByteArray) (w : World) : Calls Tryz.prog 50 #[.string s] w fun e w' => e = .returned (.bool (reservedB s.data.toList)) ∧ w = w' := by
  go_enter Tryz.func50, Tryz.ntmps50
  go_wp2
  all_goals go_ret
  all_goals exact ⟨ret_bool (by simp_all [reservedB, Lib.toList_data]), rfl⟩

theorem mark_yes (s : ByteArray) (w : World) (h : reservedB s.data.toList = true) : Calls Tryz.prog 31 #[.string s] w fun e w' => e = .returned (.bool (markB s.data.toList)) ∧ w = w' := by
  have hm : markB s.data.toList = true := by simp [markB, h]
  have HM := Lib.hid hm
  clear hm
  go_enter Tryz.func31, Tryz.ntmps31
  go_wp2_with ((go_at_call 50; refine (reserved_any _ _).mono ?_; rintro e w' ⟨rfl, rfl⟩))
  go_ret
  exact ⟨ret_bool HM.out.symm, rfl⟩

theorem mark_long (s : ByteArray) (w : World) (h : reservedB s.data.toList = false) (h1 : ¬ ((s.size : Int) = 1)) : Calls Tryz.prog 31 #[.string s] w fun e w' => e = .returned (.bool (markB s.data.toList)) ∧ w = w' := by
  have hm : markB s.data.toList = false := by
    rw [markB, h, oneMark_short _ (by simp; omega)]; rfl
  have HM := Lib.hid hm
  clear hm
  go_enter Tryz.func31, Tryz.ntmps31
  go_wp2_with ((go_at_call 50; refine (reserved_any _ _).mono ?_; rintro e w' ⟨rfl, rfl⟩))
  go_ret
  exact ⟨ret_bool HM.out.symm, rfl⟩

theorem mark_one (c : UInt8) (w : World) (h : reservedB [c] = false) : Calls Tryz.prog 31 #[.string ⟨#[c]⟩] w fun e w' => e = .returned (.bool (markB [c])) ∧ w = w' := by
  have hm : markB [c] = decide (0 ≤ Lib.indexByte [40, 41, 44, 46, 59, 95] c) := by
    rw [markB, h, oneMark, ← Lib.contains_iff_indexByte]; rfl
  have HM := Lib.hid hm
  clear hm
  go_enter Tryz.func31, Tryz.ntmps31
  go_wp2_with (first | (go_at_call 50; refine (reserved_any _ _).mono ?_; rintro e w' ⟨rfl, rfl⟩) | (go_at_call 51; refine (Tryz.strings_Contains_one _ _ _).mono ?_; rintro e w' ⟨rfl, rfl⟩))
  go_ret
  exact ⟨ret_bool HM.out.symm, rfl⟩

theorem mark_any (s : ByteArray) (w : World) : Calls Tryz.prog 31 #[.string s] w fun e w' => e = .returned (.bool (markB s.data.toList)) ∧ w = w' := by
  cases h : reservedB s.data.toList with
  | true => exact mark_yes s w h
  | false =>
    by_cases h1 : s.size = 1
    · obtain ⟨c, rfl⟩ := bytes_one s h1
      exact mark_one c w h
    · exact mark_long s w h (by omega)

def signBytes : List UInt8 := [33, 37, 38, 36, 35, 43, 45, 47, 58, 60, 61, 62, 63, 64, 92, 126, 96, 94, 124, 42]
def signB (c : Int) : Bool := signBytes.contains c.toNat.toUInt8

theorem sign_any (c : Int) (w : World) : Calls Tryz.prog 32 #[.int .u8 c] w fun e w' => e = .returned (.bool (signB c)) ∧ w = w' := by
  have hm : signB c = decide (0 ≤ Lib.indexByte signBytes c.toNat.toUInt8) := by
    rw [← Lib.contains_iff_indexByte]; rfl
  have HM := Lib.hid hm
  clear hm
  go_enter Tryz.func32, Tryz.ntmps32
  go_wp2_with ((go_at_call 52; refine (Tryz.strings_IndexByte _ _ _).mono ?_; rintro e w' ⟨rfl, rfl⟩))
  go_ret
  exact ⟨ret_bool HM.out.symm, rfl⟩

end Go.Proofs.YtbbibngagdpdcaaGreatDoor

namespace Go.Proofs.YtbbibngagdpdcaaGreatDoor
open Go Go.RowKit

theorem wpList_value {P : Program} {w w' : World} {ops : Array Oper} {rest : List Oper} {o : Oper} {a : Act} {Q : Exit → Act → World → Prop} {v : Value}
    (hg : o.guard = none) (h : (execOp a.eval o).run P w = .ok (.value v) w') (hK : wpList P ops Q rest (a.put o.dst v) w') : wpList P ops Q (o :: rest) a w := by
  refine wpList_plain hg fun K hK' => ?_
  unfold Oper.wp
  rw [h]
  exact hK' _ _ hK

theorem setRow_alloc (w : World) (cs cs' : Array Value) (t : TypeId) : (w.alloc (.cells cs t)).setRow w.heap.size cs' = w.alloc (.cells cs' t) := by
  have h : (w.heap.push (.cells cs t)).modify w.heap.size (fun | .cells _ elem frozen => .cells cs' elem frozen | o => o) = w.heap.push (.cells cs' t) := by
    apply Array.ext_getElem?
    intro i
    rw [Array.getElem?_modify, Array.getElem?_push, Array.getElem?_push]
    by_cases hi : w.heap.size = i
    · subst hi; simp
    · rw [if_neg hi, if_neg (fun e => hi e.symm), if_neg (fun e => hi e.symm)]
  exact congrArg (fun hp => ({ w with heap := hp } : World)) h

theorem new_cell (w : World) (b j : Nat) (cs : Array Value) (t : TypeId) (h : b = w.heap.size) : (w.alloc (.cells cs t)).cell? ⟨b, j, none⟩ = cs[j]? := by
  subst h
  exact cell_of_row _ _ _ _ _ _ (heap_alloc_new w _)

theorem ownsRow_base {w : World} {base base' : Nat} {e : TypeId} {size : Nat} {v : Value} {n : Nat} {xs : List Value} (h : w.ownsRow base e size v n xs) (hb : base' ≤ base) : w.ownsRow base' e size v n xs := by
  obtain ⟨h1, h2⟩ := h
  refine ⟨h1, ?_⟩
  rcases h2 with h2 | ⟨g, cap, cur, h3, h4, h5⟩
  · exact .inl h2
  · exact .inr ⟨g, cap, cur, h3, Nat.le_trans hb h4, h5⟩

theorem below_draws {B : Nat} {a w : World} (h : Below B a w) (n : Nat) : Below B a (w.drewN n) := h.trans ⟨rfl, rfl, rfl, Nat.le_refl _, fun _ _ => rfl⟩

/-- A WHOLE ROW STORED INTO A BLOCK THAT HAS JUST BEEN LAID. -/
theorem wpList_store_row {P : Program} {w : World} {ops : Array Oper} {rest : List Oper} {o : Oper} {a : Act} {Q : Exit → Act → World → Prop}
    (hg : o.guard = none) (ty : TypeId) (x y : Operand) (hop : o.op = Op.store ty x y) (t : TypeId) (cs : Array Value) (hx : a.eval x = .pointer (some ⟨w.heap.size, 0, none⟩))
    (v : Value) (hy : a.eval y = v) (hs : v.cells.size = cs.size) (hi : (P.info? ty).map (·.size) = some cs.size) (h1 : ∀ u ∈ v.cells.toList, u.oneCell' = true)
    (hK : wpList P ops Q rest (a.put o.dst undef) (w.alloc (.cells v.cells t))) : wpList P ops Q (o :: rest) a (w.alloc (.cells cs t)) := by
  refine wpList_plain hg fun K hK' => ?_
  have hst := run_storeCells_at (P := P) w.heap.size 0 t v.cells.toList 0 cs (w.alloc (.cells cs t)) (heap_alloc_new w _) (by simp [hs]) h1
  have e : (cs.toList.take (0 + 0) ++ v.cells.toList ++ cs.toList.drop (0 + 0 + v.cells.toList.length)).toArray = v.cells := by
    rw [Nat.zero_add, List.take_zero, List.nil_append, List.drop_eq_nil_of_le (by simp [hs]), List.append_nil, Array.toArray_toList]
  rw [e, setRow_alloc] at hst
  cases hq : P.info? ty with
  | none => simp [hq] at hi
  | some i =>
    have hsz : i.size = cs.size := by simpa [hq] using hi
    unfold Oper.wp
    simp [execOp, hop, hx, hy, Instr.storeAt, Instr.sureAddr, storeVar, sizeOf, typeInfo, hq, hsz, hs, hst, Result.andThen]
    exact hK' _ _ hK
end Go.Proofs.YtbbibngagdpdcaaGreatDoor

namespace Go.Proofs.YtbbibngagdpdcaaGreatDoor
open Go Go.RowKit
open Go.Shelf

/-- The keywords but the last one, in order. -/
def kw24 : List (List UInt8) := [[97, 110, 100],
  [97, 115],
  [99, 97, 115, 101],
  [100, 97, 116, 97, 116, 121, 112, 101],
  [101, 108, 115, 101],
  [101, 110, 100],
  [102, 110],
  [102, 117, 110],
  [102, 117, 110, 99, 116, 111, 114],
  [105, 102],
  [105, 110],
  [105, 110, 99, 108, 117, 100, 101],
  [108, 101, 116],
  [108, 111, 99, 97, 108],
  [111, 102],
  [111, 112],
  [111, 112, 101, 110],
  [115, 105, 103],
  [115, 105, 103, 110, 97, 116, 117, 114, 101],
  [115, 116, 114, 117, 99, 116],
  [115, 116, 114, 117, 99, 116, 117, 114, 101],
  [116, 104, 101, 110],
  [116, 121, 112, 101],
  [118, 97, 108]]
def kwTab : List (List UInt8) := kw24 ++ [[119, 104, 101, 114, 101]]
def strV (l : List UInt8) : Value := .string ⟨l.toArray⟩
def kwArr : Array Value := (kw24.map strV).toArray
def zArr : Array Value := Array.replicate 24 (.string ⟨#[]⟩)

theorem kw_build (a : Act) (w : World) (dst : Option Tmp) (pos : String) (after : Array Edge) (g : Option (Nat × Bool)) :
    (execOp a.eval { dst := dst, op := Op.build 76 #[(0, .const (.string ⟨#[97, 110, 100]⟩)), (1, .const (.string ⟨#[97, 115]⟩)), (2, .const (.string ⟨#[99, 97, 115, 101]⟩)), (3, .const (.string ⟨#[100, 97, 116, 97, 116, 121, 112, 101]⟩)), (4, .const (.string ⟨#[101, 108, 115, 101]⟩)), (5, .const (.string ⟨#[101, 110, 100]⟩)), (6, .const (.string ⟨#[102, 110]⟩)), (7, .const (.string ⟨#[102, 117, 110]⟩)), (8, .const (.string ⟨#[102, 117, 110, 99, 116, 111, 114]⟩)), (9, .const (.string ⟨#[105, 102]⟩)), (10, .const (.string ⟨#[105, 110]⟩)), (11, .const (.string ⟨#[105, 110, 99, 108, 117, 100, 101]⟩)), (12, .const (.string ⟨#[108, 101, 116]⟩)), (13, .const (.string ⟨#[108, 111, 99, 97, 108]⟩)), (14, .const (.string ⟨#[111, 102]⟩)), (15, .const (.string ⟨#[111, 112]⟩)), (16, .const (.string ⟨#[111, 112, 101, 110]⟩)), (17, .const (.string ⟨#[115, 105, 103]⟩)), (18, .const (.string ⟨#[115, 105, 103, 110, 97, 116, 117, 114, 101]⟩)), (19, .const (.string ⟨#[115, 116, 114, 117, 99, 116]⟩)), (20, .const (.string ⟨#[115, 116, 114, 117, 99, 116, 117, 114, 101]⟩)), (21, .const (.string ⟨#[116, 104, 101, 110]⟩)), (22, .const (.string ⟨#[116, 121, 112, 101]⟩)), (23, .const (.string ⟨#[118, 97, 108]⟩))], type := 76, pos := pos, after := after, guard := g }).run Tryz.prog w = .ok (.value (.agg kwArr)) w := by kernel_rfl

theorem kw_alloc (a : Act) (w : World) (dst : Option Tmp) (ty : TypeId) (pos : String) (after : Array Edge) (g : Option (Nat × Bool)) :
    (execOp a.eval { dst := dst, op := Op.alloc 76, type := ty, pos := pos, after := after, guard := g }).run Tryz.prog w = .ok (.value (.pointer (some ⟨w.heap.size, 0, none⟩))) (w.alloc (.cells zArr 76)) := by kernel_rfl

theorem info24 : (Tryz.prog.info? 76).map (·.size) = some 24 := by kernel_rfl

set_option maxHeartbeats 400000 in
theorem keywords_any (w : World) : Calls Tryz.prog 67 #[] w fun e w' => e = .returned (.agg kwArr) ∧ w' = w.alloc (.cells kwArr 76) := by
  go_enter Tryz.func67, Tryz.ntmps67
  go_step
  go_step
  go_step
  refine wpList_value rfl (kw_alloc _ _ _ _ _ _ _) ?_
  go_step
  go_step
  go_step
  go_step
  go_step
  refine wpList_value rfl (kw_build _ _ _ _ _ _) ?_
  refine wpList_store_row rfl 76 (.tmp 0) (.tmp 1) rfl _ zArr rfl (.agg kwArr) rfl rfl info24 (by decide) ?_
  go_step
  go_step
  go_step
  go_step
  refine bodyPost_ret (v := .agg kwArr) (results_cell_row (g := w.heap.size) (t := 76) (cs := kwArr) (fr := (0, 0)) (d := .array 24 9) rfl _ _ rfl (heap_alloc_new w _) ?_ rfl info24) rfl ⟨rfl, rfl⟩
  kernel_rfl

theorem kwTab_cell (w : World) (j : Nat) (u : Value) (b : Nat) (t : TypeId) (fr : Nat × Nat) (hb : w.heap[b]? = some (.cells kwArr t fr)) (h : (kw24.map strV)[j]? = some u) : w.cell? ((⟨b, 0, none⟩ : Addr).add j) = some u := by
  have hadd : (⟨b, 0, none⟩ : Addr).add j = ⟨b, j, none⟩ := by unfold Addr.add; split <;> simp_all
  rw [hadd, cell_of_row w b j kwArr t fr hb]
  simpa [kwArr] using h

theorem Tryz.infoStr : (Tryz.prog.info? 9).map (fun i => (i.zero, i.size, i.bytes)) = some (some (.string ⟨#[]⟩), 1, 16) := by kernel_rfl

set_option maxHeartbeats 400000 in
theorem Keywords_any (w : World) : Calls Tryz.prog 54 #[] w fun e w' => ∃ v, e = .returned v ∧ w'.ownsRow w.heap.size 9 1 v 25 (kwTab.map strV) ∧ Below w.heap.size w w' := by
  obtain ⟨i0, hi, hz0, hz1, hz2⟩ := info_parts Tryz.infoStr
  go_enter Tryz.func54, Tryz.ntmps54
  go_wp2_with fail
  refine (keywords_any _).mono ?_
  rintro e w' ⟨rfl, rfl⟩
  dsimp only
  go_step
  refine wpList_value rfl (kw_alloc _ _ _ _ _ _ _) ?_
  refine wpList_store_row rfl 76 (.tmp 1) (.tmp 2) rfl _ zArr rfl (.agg kwArr) rfl rfl info24 (by decide) ?_
  go_step
  go_step
  go_step
  go_step
  go_step
  go_step
  go_step
  go_step
  go_step
  go_step
  go_step
  refine wpList_append_grows _ rfl (.tmp 3) (.tmp 4) 35 rfl 9 i0 (.string ⟨#[]⟩) 1 16 Tryz.underlying35 hi hz0 hz1 hz2 rfl (by decide)
    (some ⟨w.heap.size + 1, 0, none⟩) 24 24 (kw24.map strV) rfl (fun h => by cases h) rfl ?c0 ⟨w.heap.size + 1 + 1, 0, none⟩ 1 1 [strV [119, 104, 101, 114, 101]] rfl rfl ?c1 ?c2 (by decide) (by unfold maxLen; decide) (by decide) ?_
  case c0 =>
    intro b hb j u hu
    cases hb
    refine kwTab_cell _ _ _ _ 76 (0, 0) ?_ hu
    rw [Below.heap_alloc _ _ _ (by simp)]
    simpa using heap_alloc_new (w.alloc (.cells kwArr 76)) (.cells kwArr 76)
  case c1 =>
    intro j u hj
    match j, hj with
    | 0, hj =>
      simp at hj
      subst hj
      rw [show ((⟨w.heap.size + 1 + 1, 0, none⟩ : Addr).add 0) = ⟨w.heap.size + 1 + 1, 0, none⟩ from rfl, new_cell _ _ _ _ _ (by simp)]
      rfl
  case c2 => intro u hu; simp at hu; subst hu; rfl
  intro v' w' hown hgrow
  have hb : Below w.heap.size w w' := (((((Below.refl _ w).alloc (Nat.le_refl _) _).alloc (by simp) _).alloc (by simp; omega) _).grown hgrow (by simp; omega) (fun k hk => by cases hk))
  have hown' : w'.ownsRow w.heap.size 9 1 v' 25 (kwTab.map strV) := ownsRow_base hown (by simp; omega)
  clear hown hgrow
  go_wp2
  go_ret
  exact ⟨_, rfl, hown', hb⟩
end Go.Proofs.YtbbibngagdpdcaaGreatDoor
