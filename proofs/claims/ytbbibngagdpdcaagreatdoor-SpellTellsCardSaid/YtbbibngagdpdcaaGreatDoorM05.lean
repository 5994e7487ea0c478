/-
  PROVED HERE: a part of the proof of the card 'SpellTellsCardSaid': what functions of the program, or of the document's packages, that SpellTells reaches compute (texts A6, A7, A8). CONDITIONS: each theorem's own.
-/
import Derived.Test.YtbbibngagdpdcaaGreatDoorM04
import Derived.Deep.LoopGhost
namespace Go.Proofs.YtbbibngagdpdcaaGreatDoor
open Go Go.RowKit
open Go.Shelf

def levelOf (c : Int) : Int :=
  if c == 42 then 7 else if c == 47 then 7 else if c == 37 then 7 else if c == 43 then 6 else if c == 45 then 6 else if c == 94 then 5 else if c == 64 then 5 else if c == 58 then 5 else if c == 61 then 4 else if c == 60 then 4 else if c == 62 then 4 else if c == 33 then 4 else if c == 38 then 3 else if c == 124 then 3 else 2
def rightOf (c : Int) : Bool :=
  if c == 42 then false else if c == 47 then false else if c == 37 then false else if c == 43 then false else if c == 45 then false else if c == 94 then true else if c == 64 then true else if c == 58 then true else if c == 61 then false else if c == 60 then false else if c == 62 then false else if c == 33 then false else if c == 38 then false else if c == 124 then false else false

def headI (l : List UInt8) : Int := match l with | [] => 0 | c :: _ => c.toNat

/-- WHAT name.Level GIVES. -/
def levelL (l : List UInt8) : Int := if kindL l = 9 then levelOf (headI l) else 0
def rightL (l : List UInt8) : Bool := if kindL l = 9 then rightOf (headI l) else false

theorem head_get (s : ByteArray) (h : 0 < s.size) : headI s.data.toList = s[0].toNat := by
  obtain ⟨⟨l⟩⟩ := s
  match l, h with
  | a :: r, _ => rfl

theorem ret_lr {a b : Int} {c d : Bool} (h : a = b) (h' : c = d) : Ending.returned (.tuple #[.int .i64 a, .bool c]) = .returned (.tuple #[.int .i64 b, .bool d]) := by rw [h, h']

theorem kind_pos (s : ByteArray) (h : kindL s.data.toList ≠ 0) : 0 < s.size := by
  by_cases h0 : s.size = 0
  · refine absurd ?_ h
    obtain rfl : s = ⟨#[]⟩ := by
      cases s with
      | mk a => exact congrArg ByteArray.mk (Array.eq_empty_of_size_eq_zero h0)
    rfl
  · omega

theorem level_no (s : ByteArray) (w : World) (hs : s.size ≤ 140737488351232) (hk : kindL s.data.toList ≠ 9) : Calls Tryz.prog 43 #[.string s] w fun e w' => e = .returned (.tuple #[.int .i64 (levelL s.data.toList), .bool (rightL s.data.toList)]) ∧ Below w.heap.size w w' := by
  have hl : levelL s.data.toList = 0 := by simp [levelL, hk]
  have hr : rightL s.data.toList = false := by simp [rightL, hk]
  have HL := Lib.hid hl
  have HR := Lib.hid hr
  have hkb : (kindL s.data.toList != 9) = true := by simpa using hk
  clear hl hr hk
  go_enter Tryz.func43, Tryz.ntmps43
  go_wp2_with (go_at_call 15; refine (kind_any _ _ hs).mono ?_; rintro e w' ⟨rfl, hb⟩)
  go_ret2
  exact ⟨ret_lr HL.out.symm HR.out.symm, hb⟩

set_option maxHeartbeats 1000000 in
theorem level_yes (s : ByteArray) (w : World) (hs : s.size ≤ 140737488351232) (hk : kindL s.data.toList = 9) : Calls Tryz.prog 43 #[.string s] w fun e w' => e = .returned (.tuple #[.int .i64 (levelL s.data.toList), .bool (rightL s.data.toList)]) ∧ Below w.heap.size w w' := by
  have h0 : 0 < s.size := kind_pos s (by rw [hk]; decide)
  have hl : levelL s.data.toList = levelOf s[0].toNat := by simp only [levelL, hk, if_true, head_get s h0]
  have hr : rightL s.data.toList = rightOf s[0].toNat := by simp only [rightL, hk, if_true, head_get s h0]
  have HL := Lib.hid hl
  have HR := Lib.hid hr
  have HC : Hid (∀ w, Calls Tryz.prog 15 #[.string s] w fun e w' => e = .returned (.int .i64 9) ∧ Below w.heap.size w w') := fun w => by have := kind_any s w hs; rw [hk] at this; exact this
  have hie : (!s.toList.isEmpty) = true := by
    rw [Lib.toList_data]
    cases hd : s.data.toList with
    | nil => rw [hd] at hk; cases hk
    | cons a l => rfl
  clear hl hr hk
  go_enter Tryz.func43, Tryz.ntmps43
  go_wp2_with (go_at_call 15; refine (HC.out _).mono ?_; rintro e w' ⟨rfl, hb⟩)
  all_goals
    go_ret2
    refine ⟨ret_lr ?_ ?_, hb⟩
    · rw [HL.out]; simp only [levelOf, *, if_true, Bool.false_eq_true, if_false]
    · rw [HR.out]; simp only [rightOf, *, if_true, Bool.false_eq_true, if_false]

theorem level_any (s : ByteArray) (w : World) (hs : s.size ≤ 140737488351232) : Calls Tryz.prog 43 #[.string s] w fun e w' => e = .returned (.tuple #[.int .i64 (levelL s.data.toList), .bool (rightL s.data.toList)]) ∧ Below w.heap.size w w' := by
  by_cases hk : kindL s.data.toList = 9
  · exact level_yes s w hs hk
  · exact level_no s w hs hk
end Go.Proofs.YtbbibngagdpdcaaGreatDoor

namespace Go.Proofs.YtbbibngagdpdcaaGreatDoor
open Go Go.RowKit
open Go.Shelf

theorem Below.next {B : Nat} {w w1 w2 : World} (h : Below B w w1) (hB : B ≤ w.heap.size) (h' : Below w1.heap.size w1 w2) : Below B w w2 :=
  h.trans (h'.mono (Nat.le_trans hB h.size))

/-- WHAT name.Alike GIVES. -/
def alikeL (a b : List UInt8) : Bool :=
  if kindL a != kindL b then false
  else if kindL a == 9 then levelL a == levelL b && rightL a == rightL b
  else if kindL a == 6 then true
  else if kindL a == 7 then true
  else false

set_option maxHeartbeats 1000000 in
theorem alike_any (a b : ByteArray) (w : World) (ha : a.size ≤ 140737488351232) (hb : b.size ≤ 140737488351232) :
    Calls Tryz.prog 18 #[.string a, .string b] w fun e w' => e = .returned (.bool (alikeL a.data.toList b.data.toList)) ∧ Below w.heap.size w w' := by
  go_enter Tryz.func18, Tryz.ntmps18
  go_wp2_with fail
  refine (kind_any a _ ha).mono ?_
  rintro e w1 ⟨rfl, hb1⟩
  dsimp only
  go_wp2_with fail
  refine (kind_any b _ hb).mono ?_
  rintro e w2 ⟨rfl, hb2'⟩
  have hb2 := Below.next hb1 (Nat.le_refl _) hb2'
  clear hb1 hb2'
  dsimp only
  go_wp2_with (first | (go_at_call 43; (with_reducible refine (level_any a _ ha).mono ?_); rintro e w3 ⟨rfl, hb3⟩) | (go_at_call 43; (with_reducible refine (level_any b _ hb).mono ?_); rintro e w4 ⟨rfl, hb4⟩))
  all_goals
    go_ret
    refine ⟨ret_bool ?_, by first | exact Below.next (Below.next hb2 (Nat.le_refl _) hb3) (Nat.le_refl _) hb4 | exact hb2⟩
    simp only [alikeL, *, if_true, Bool.false_eq_true, if_false]
  · simp
  · have h : ¬ levelL a.data.toList = levelL b.data.toList := by assumption
    rw [beq_eq_false_iff_ne.2 h, Bool.false_and]

set_option maxHeartbeats 400000 in
theorem space_1 (w : World) : Calls Tryz.prog 38 #[.int .i64 1] w fun e w' => e = .returned (.string ⟨#[118, 97, 108, 117, 101]⟩) ∧ Below w.heap.size w w' := by
  go_enter Tryz.func38, Tryz.ntmps38
  go_wp2
  go_ret
  exact ⟨rfl, (Below.refl _ w).alloc (Nat.le_refl _) _⟩

set_option maxHeartbeats 400000 in
theorem space_4 (w : World) : Calls Tryz.prog 38 #[.int .i64 4] w fun e w' => e = .returned (.string ⟨#[115, 116, 114, 117, 99, 116, 117, 114, 101]⟩) ∧ Below w.heap.size w w' := by
  go_enter Tryz.func38, Tryz.ntmps38
  go_wp2
  go_ret
  exact ⟨rfl, (Below.refl _ w).alloc (Nat.le_refl _) _⟩

theorem may_1 (s : ByteArray) (w : World) (hs : s.size ≤ 140737488351232) : Calls Tryz.prog 39 #[.int .i64 1, .string s] w fun e w' => e = .returned (.bool (kindL s.data.toList == 6 || kindL s.data.toList == 9)) ∧ Below w.heap.size w w' := by
  go_enter Tryz.func39, Tryz.ntmps39
  go_wp2_with (go_at_call 15; refine (kind_any _ _ hs).mono ?_; rintro e w' ⟨rfl, hb⟩)
  all_goals
    go_ret
    refine ⟨ret_bool ?_, hb⟩
    simp [*]

theorem may_4 (s : ByteArray) (w : World) (hs : s.size ≤ 140737488351232) : Calls Tryz.prog 39 #[.int .i64 4, .string s] w fun e w' => e = .returned (.bool (kindL s.data.toList == 7)) ∧ Below w.heap.size w w' := by
  go_enter Tryz.func39, Tryz.ntmps39
  go_wp2_with (go_at_call 15; refine (kind_any _ _ hs).mono ?_; rintro e w' ⟨rfl, hb⟩)
  go_ret
  exact ⟨rfl, hb⟩
end Go.Proofs.YtbbibngagdpdcaaGreatDoor

namespace Go.Proofs.YtbbibngagdpdcaaGreatDoor
open Go Go.RowKit
open Go.Shelf

/-- THE SLICE v OF STRINGS READS AS zs IN w. -/
def StrsAt (w : World) (v : Value) (zs : List (List UInt8)) : Prop :=
  ∃ a c, v = .slice a zs.length c ∧ (zs = [] ∨ ∃ b off, a = some ⟨b, off, none⟩ ∧ b < w.heap.size ∧ ∀ j, j < zs.length → w.cell? ⟨b, off + j, none⟩ = some (strV (zs.getD j [])))

theorem StrsAt.later {w w' : World} {v : Value} {zs : List (List UInt8)} (h : StrsAt w v zs) (hb : Below w.heap.size w w') : StrsAt w' v zs := by
  obtain ⟨a, c, rfl, h⟩ := h
  refine ⟨a, c, rfl, ?_⟩
  rcases h with h | ⟨b, off, rfl, hlt, hc⟩
  · exact .inl h
  · exact .inr ⟨b, off, rfl, Nat.lt_of_lt_of_le hlt hb.size, fun j hj => (hb.cell (p := ⟨b, off + j, none⟩) hlt).trans (hc j hj)⟩

theorem strV_data (s : ByteArray) : strV s.data.toList = .string s := by cases s; rfl

theorem containsS_eq (zs : List (List UInt8)) (x : ByteArray) : Lib.containsS (zs.map fun l => (⟨l.toArray⟩ : ByteArray)) x = zs.contains x.data.toList := by
  rw [Bool.eq_iff_iff, Lib.containsS_iff]
  simp only [List.mem_map, List.contains_iff_mem]
  constructor
  · rintro ⟨l, hl, rfl⟩
    exact hl
  · intro h
    exact ⟨_, h, by cases x; rfl⟩

theorem contains_to (r : Bool) (zs : List (List UInt8)) (v : Value) (x : ByteArray) (w : World) (h : StrsAt w v zs) (hbig : zs.length ≤ 9223372036854775807) (hx : zs.contains x.data.toList = r) :
    Calls Tryz.prog 41 #[v, .string x] w fun e w' => e = .returned (.bool r) ∧ w = w' := by
  obtain ⟨a, c, rfl, h⟩ := h
  rcases h with rfl | ⟨b, off, rfl, hlt, hc⟩
  · refine (Tryz.slices_Contains_string_empty a c x w).mono ?_
    rintro e w' ⟨rfl, rfl⟩
    exact ⟨ret_bool (by rw [← hx]; rfl), rfl⟩
  · refine (Tryz.slices_Contains_string b off zs.length c (zs.map fun l => (⟨l.toArray⟩ : ByteArray)) x w (by simp) hbig (fun j hj => ?_)).mono ?_
    · have hj' : j < zs.length := by simpa using hj
      rw [hc j hj']
      simp [strV, List.getElem?_eq_getElem hj']
    · rintro e w' ⟨rfl, rfl⟩
      refine ⟨ret_bool ?_, rfl⟩
      rw [List.take_of_length_le (by simp), containsS_eq, hx]

def letter (sp : Int) (i : Nat) : UInt8 := if sp = 1 then (if i = 0 then 120 else if i = 1 then 121 else 122) else (if i = 0 then 88 else if i = 1 then 89 else 90)

/-- THE NAMES THAT name.Fresh TRIES, IN ITS ORDER. -/
def cand (sp : Int) (k i : Nat) : List UInt8 := letter sp i :: (if k = 0 then [] else Lib.itoa k)

theorem ext3 (a b c : UInt8) (i : Nat) (hi : i < 3) : ((⟨#[a, b, c]⟩ : ByteArray).extract i (i + 1)).data.toList = [if i = 0 then a else if i = 1 then b else c] := by
  rw [Lib.extract_data]
  match i, hi with
  | 0, _ | 1, _ | 2, _ => rfl

theorem ext3x (i : Nat) (hi : i < 3) : ((⟨#[120, 121, 122]⟩ : ByteArray).extract i (i + 1)).data.toList = [letter 1 i] := by
  rw [ext3 _ _ _ i hi]; rfl
theorem ext3X (i : Nat) (hi : i < 3) : ((⟨#[88, 89, 90]⟩ : ByteArray).extract i (i + 1)).data.toList = [letter 4 i] := by
  rw [ext3 _ _ _ i hi]; rfl

structure FirstFree (sp : Int) (zs : List (List UInt8)) (K I : Nat) : Prop where
  lt : I < 3
  small : K < 1000000000
  free : zs.contains (cand sp K I) = false
  taken : ∀ k i, i < 3 → (k < K ∨ (k = K ∧ i < I)) → zs.contains (cand sp k i) = true

/-- strconv's TABLE READS AS ITS TEXT LAYS IT. -/
structure TabOk (w : World) : Prop where
  tab : Lib.TabIs Tryz.prog w "internal/strconv.uint64pow10" .u64 Lib.pow10Tab
  lt : 1 < w.heap.size

theorem TabOk.later {w w' : World} (h : TabOk w) (hb : Below w.heap.size w w') : TabOk w' :=
  ⟨var?_below hb (by kernel_rfl) h.lt h.tab, Nat.lt_of_lt_of_le h.lt hb.size⟩

theorem below_growing (w : World) (k : Nat) (os : Array Obj) : Below w.heap.size w (Go.Sort.grow (w.drewN k) os) :=
  ⟨rfl, rfl, rfl, by show w.heap.size ≤ (w.heap ++ os).size; simp, fun i hi => by show (w.heap ++ os)[i]? = w.heap[i]?; rw [Array.getElem?_append_left hi]⟩

theorem itoa_any (n : Int) (h0 : 0 ≤ n) (h1 : n < 1000000000) (w : World) (ht : TabOk w) : Calls Tryz.prog 40 #[.int .i64 n] w fun e w' => e = .returned (.string ⟨(Lib.itoa n).toArray⟩) ∧ Below w.heap.size w w' := by
  refine (Tryz.strconv_Itoa n (by omega) (by omega) w ht.tab).mono ?_
  rintro e w' ⟨rfl, k, os, rfl⟩
  exact ⟨rfl, below_growing w k os⟩


theorem dec_len (u : Nat) : (Lib.decDigits u).length ≤ u + 1 := by
  induction u using Nat.strongRecOn with
  | ind u ih =>
    rw [Lib.decDigits]
    split
    · simp
    · have := ih (u / 10) (by omega)
      simp only [List.length_append, List.length_singleton]
      omega

theorem itoa_len (k : Nat) : (Lib.itoa k).length ≤ k + 1 := by
  unfold Lib.itoa
  rw [if_neg (by omega)]
  exact dec_len k

theorem cand_data_1 (k i : Nat) (hi : i < 3) (hk : 0 < k) : ((⟨#[120, 121, 122]⟩ : ByteArray).extract i (i + 1) ++ ⟨(Lib.itoa k).toArray⟩).data.toList = cand 1 k i := by
  rw [ByteArray.data_append, Array.toList_append, ext3x i hi, cand, if_neg (by omega)]
  simp
theorem cand_zero_1 (i : Nat) (hi : i < 3) : ((⟨#[120, 121, 122]⟩ : ByteArray).extract i (i + 1)).data.toList = cand 1 0 i := by
  rw [ext3x i hi, cand, if_pos rfl]

theorem add_small_1 (k i : Nat) (hi : i < 3) (hk : k < 1000000000) : ((⟨#[120, 121, 122]⟩ : ByteArray).extract i (i + 1)).size + (⟨(Lib.itoa k).toArray⟩ : ByteArray).size ≤ 9223372036854775807 := by
  have h1 : ((⟨#[120, 121, 122]⟩ : ByteArray).extract i (i + 1)).size ≤ 3 := by
    have := congrArg List.length (ext3x i hi)
    simp only [Array.length_toList, List.length_singleton] at this
    exact Nat.le_trans (Nat.le_of_eq this) (by omega)
  have h2 : (⟨(Lib.itoa k).toArray⟩ : ByteArray).size = (Lib.itoa k).length := rfl
  have h3 := itoa_len k
  omega

set_option maxHeartbeats 2000000 in
theorem fresh_1 (zs : List (List UInt8)) (v : Value) (K I : Nat) (hf : FirstFree 1 zs K I) (w : World) (ht : TabOk w) (hv : StrsAt w v zs) (hbig : zs.length ≤ 9223372036854775807) :
    Calls Tryz.prog 16 #[.int .i64 1, v] w fun e w' => e = .returned (.tuple #[strV (cand 1 K I), .bool true]) ∧ Below w.heap.size w w' := by
  have HF := Lib.hid hf
  have HT := Lib.hid ht
  have HV := Lib.hid hv
  have hI := hf.lt
  have hK := hf.small
  have hk88 : (kindL [88] == 6 || kindL [88] == 9) = false := by decide
  clear hf ht hv
  go_enter Tryz.func16, Tryz.ntmps16
  go_wp2_with (first | (go_at_call 38; refine (space_1 _).mono ?_; rintro e w1 ⟨rfl, hb1⟩) | (go_at_call 39; refine (may_1 _ _ (by decide)).mono ?_; rintro e w2 ⟨rfl, hb2⟩))
  have HB := Lib.hid (Below.next hb1 (Nat.le_refl _) hb2)
  clear hb1 hb2
  go_loopg [7] (K + 1) (fun g s7 wr => ∃ k : Nat, s7 = .int .i64 k ∧ k ≤ K ∧ K + 1 - k ≤ g ∧ Hid (Below w.heap.size w wr))
  case atStart => exact ⟨0, rfl, Nat.zero_le _, Nat.le_refl _, HB⟩
  case round =>
    obtain ⟨k, rfl, hk, hg, hB⟩ := hrel
    clear HB
    go_wp2_with fail
    obtain ⟨wo, rfl⟩ : ∃ wo : World, wo = wr := ⟨_, rfl⟩
    go_loopg [19] 4 (fun g2 s19 wi => ∃ i : Nat, s19 = .int .i64 i ∧ i ≤ 3 ∧ 4 - i ≤ g2 ∧ (k < K ∨ i ≤ I) ∧ Hid (Below w.heap.size w wi))
    case atStart => exact ⟨0, rfl, Nat.zero_le _, Nat.le_refl _, Or.inr (Nat.zero_le _), hB⟩
    case round =>
      obtain ⟨i, rfl, hi, hg2, hki, hBi⟩ := hrel
      clear hB
      by_cases hi3 : i < 3
      · by_cases hk0 : k = 0
        · subst hk0
          by_cases hit : K = 0 ∧ i = I
          · obtain ⟨rfl, rfl⟩ := hit
            go_wp2_with (go_at_call 41; refine (contains_to false zs v _ _ (HV.out.later hBi.out) hbig (by rw [cand_zero_1 i hi3]; exact HF.out.free)).mono ?_; rintro e w3 ⟨rfl, rfl⟩)
            go_ret2
            exact ⟨by rw [← cand_zero_1 i hi3, strV_data]; rfl, hBi.out⟩
          · have hlow : 0 < K ∨ ((0 : Nat) = K ∧ i < I) := by omega
            have HL := Lib.hid hlow
            clear hlow
            go_wp2_with (go_at_call 41; refine (contains_to true zs v _ _ (HV.out.later hBi.out) hbig (by rw [cand_zero_1 i hi3]; exact HF.out.taken 0 i hi3 HL.out)).mono ?_; rintro e w3 ⟨rfl, rfl⟩)
            go_roundg (4 - (i + 1))
            case measure => omega
            case rel => exact ⟨i + 1, by go_num, by omega, Nat.le_refl _, by have := HL.out; omega, hBi⟩
        · have hk1 : 0 < k := by omega
          have hkp : (0 : Int) < (k : Int) := by omega
          have hadd : ∀ W : World, (Op.stringOp .add ((⟨#[120, 121, 122]⟩ : ByteArray).extract i (i + 1)) ⟨(Lib.itoa k).toArray⟩).run Tryz.prog W = .ok (.string ((⟨#[120, 121, 122]⟩ : ByteArray).extract i (i + 1) ++ ⟨(Lib.itoa k).toArray⟩)) W := fun W => run_string_add_sum W _ _ (add_small_1 k i hi3 (by omega))
          by_cases hit : K = k ∧ i = I
          · obtain ⟨rfl, rfl⟩ := hit
            go_wp2_with (first | (go_at_call 40; refine (itoa_any _ (by omega) (by omega) _ (HT.out.later hBi.out)).mono ?_; rintro e w3 ⟨rfl, hb3'⟩; have hb3 := Lib.hid (Below.next hBi.out (Nat.le_refl _) hb3'); clear hb3') | (go_at_call 41; refine (contains_to false zs v _ _ (HV.out.later hb3.out) hbig (by rw [cand_data_1 _ i hi3 hk1]; exact HF.out.free)).mono ?_; rintro e w4 ⟨rfl, rfl⟩))
            go_ret2
            exact ⟨by rw [← cand_data_1 _ i hi3 hk1, strV_data]; rfl, hb3.out⟩
          · have hlow : k < K ∨ (k = K ∧ i < I) := by omega
            have HL := Lib.hid hlow
            clear hlow
            go_wp2_with (first | (go_at_call 40; refine (itoa_any _ (by omega) (by omega) _ (HT.out.later hBi.out)).mono ?_; rintro e w3 ⟨rfl, hb3'⟩; have hb3 := Lib.hid (Below.next hBi.out (Nat.le_refl _) hb3'); clear hb3') | (go_at_call 41; refine (contains_to true zs v _ _ (HV.out.later hb3.out) hbig (by rw [cand_data_1 _ i hi3 hk1]; exact HF.out.taken k i hi3 HL.out)).mono ?_; rintro e w4 ⟨rfl, rfl⟩))
            go_roundg (4 - (i + 1))
            case measure => omega
            case rel => exact ⟨i + 1, by go_num, by omega, Nat.le_refl _, by have := HL.out; omega, hb3⟩
      · have hkK : k < K := by omega
        go_wp2
        go_roundg (K + 1 - (k + 1))
        case measure => omega
        case rel => exact ⟨k + 1, by go_num, by omega, Nat.le_refl _, hBi⟩

theorem cand_data_4 (k i : Nat) (hi : i < 3) (hk : 0 < k) : ((⟨#[88, 89, 90]⟩ : ByteArray).extract i (i + 1) ++ ⟨(Lib.itoa k).toArray⟩).data.toList = cand 4 k i := by
  rw [ByteArray.data_append, Array.toList_append, ext3X i hi, cand, if_neg (by omega)]
  simp
theorem cand_zero_4 (i : Nat) (hi : i < 3) : ((⟨#[88, 89, 90]⟩ : ByteArray).extract i (i + 1)).data.toList = cand 4 0 i := by
  rw [ext3X i hi, cand, if_pos rfl]

theorem add_small_4 (k i : Nat) (hi : i < 3) (hk : k < 1000000000) : ((⟨#[88, 89, 90]⟩ : ByteArray).extract i (i + 1)).size + (⟨(Lib.itoa k).toArray⟩ : ByteArray).size ≤ 9223372036854775807 := by
  have h1 : ((⟨#[88, 89, 90]⟩ : ByteArray).extract i (i + 1)).size ≤ 3 := by
    have := congrArg List.length (ext3X i hi)
    simp only [Array.length_toList, List.length_singleton] at this
    exact Nat.le_trans (Nat.le_of_eq this) (by omega)
  have h2 : (⟨(Lib.itoa k).toArray⟩ : ByteArray).size = (Lib.itoa k).length := rfl
  have h3 := itoa_len k
  omega

set_option maxHeartbeats 2000000 in
theorem fresh_4 (zs : List (List UInt8)) (v : Value) (K I : Nat) (hf : FirstFree 4 zs K I) (w : World) (ht : TabOk w) (hv : StrsAt w v zs) (hbig : zs.length ≤ 9223372036854775807) :
    Calls Tryz.prog 16 #[.int .i64 4, v] w fun e w' => e = .returned (.tuple #[strV (cand 4 K I), .bool true]) ∧ Below w.heap.size w w' := by
  have HF := Lib.hid hf
  have HT := Lib.hid ht
  have HV := Lib.hid hv
  have hI := hf.lt
  have hK := hf.small
  have hk88 : (kindL [88] == 7) = true := by decide
  clear hf ht hv
  go_enter Tryz.func16, Tryz.ntmps16
  go_wp2_with (first | (go_at_call 38; refine (space_4 _).mono ?_; rintro e w1 ⟨rfl, hb1⟩) | (go_at_call 39; refine (may_4 _ _ (by decide)).mono ?_; rintro e w2 ⟨rfl, hb2⟩))
  have HB := Lib.hid (Below.next hb1 (Nat.le_refl _) hb2)
  clear hb1 hb2
  go_loopg [7] (K + 1) (fun g s7 wr => ∃ k : Nat, s7 = .int .i64 k ∧ k ≤ K ∧ K + 1 - k ≤ g ∧ Hid (Below w.heap.size w wr))
  case atStart => exact ⟨0, rfl, Nat.zero_le _, Nat.le_refl _, HB⟩
  case round =>
    obtain ⟨k, rfl, hk, hg, hB⟩ := hrel
    clear HB
    go_wp2_with fail
    obtain ⟨wo, rfl⟩ : ∃ wo : World, wo = wr := ⟨_, rfl⟩
    go_loopg [19] 4 (fun g2 s19 wi => ∃ i : Nat, s19 = .int .i64 i ∧ i ≤ 3 ∧ 4 - i ≤ g2 ∧ (k < K ∨ i ≤ I) ∧ Hid (Below w.heap.size w wi))
    case atStart => exact ⟨0, rfl, Nat.zero_le _, Nat.le_refl _, Or.inr (Nat.zero_le _), hB⟩
    case round =>
      obtain ⟨i, rfl, hi, hg2, hki, hBi⟩ := hrel
      clear hB
      by_cases hi3 : i < 3
      · by_cases hk0 : k = 0
        · subst hk0
          by_cases hit : K = 0 ∧ i = I
          · obtain ⟨rfl, rfl⟩ := hit
            go_wp2_with (go_at_call 41; refine (contains_to false zs v _ _ (HV.out.later hBi.out) hbig (by rw [cand_zero_4 i hi3]; exact HF.out.free)).mono ?_; rintro e w3 ⟨rfl, rfl⟩)
            go_ret2
            exact ⟨by rw [← cand_zero_4 i hi3, strV_data]; rfl, hBi.out⟩
          · have hlow : 0 < K ∨ ((0 : Nat) = K ∧ i < I) := by omega
            have HL := Lib.hid hlow
            clear hlow
            go_wp2_with (go_at_call 41; refine (contains_to true zs v _ _ (HV.out.later hBi.out) hbig (by rw [cand_zero_4 i hi3]; exact HF.out.taken 0 i hi3 HL.out)).mono ?_; rintro e w3 ⟨rfl, rfl⟩)
            go_roundg (4 - (i + 1))
            case measure => omega
            case rel => exact ⟨i + 1, by go_num, by omega, Nat.le_refl _, by have := HL.out; omega, hBi⟩
        · have hk1 : 0 < k := by omega
          have hkp : (0 : Int) < (k : Int) := by omega
          have hadd : ∀ W : World, (Op.stringOp .add ((⟨#[88, 89, 90]⟩ : ByteArray).extract i (i + 1)) ⟨(Lib.itoa k).toArray⟩).run Tryz.prog W = .ok (.string ((⟨#[88, 89, 90]⟩ : ByteArray).extract i (i + 1) ++ ⟨(Lib.itoa k).toArray⟩)) W := fun W => run_string_add_sum W _ _ (add_small_4 k i hi3 (by omega))
          by_cases hit : K = k ∧ i = I
          · obtain ⟨rfl, rfl⟩ := hit
            go_wp2_with (first | (go_at_call 40; refine (itoa_any _ (by omega) (by omega) _ (HT.out.later hBi.out)).mono ?_; rintro e w3 ⟨rfl, hb3'⟩; have hb3 := Lib.hid (Below.next hBi.out (Nat.le_refl _) hb3'); clear hb3') | (go_at_call 41; refine (contains_to false zs v _ _ (HV.out.later hb3.out) hbig (by rw [cand_data_4 _ i hi3 hk1]; exact HF.out.free)).mono ?_; rintro e w4 ⟨rfl, rfl⟩))
            go_ret2
            exact ⟨by rw [← cand_data_4 _ i hi3 hk1, strV_data]; rfl, hb3.out⟩
          · have hlow : k < K ∨ (k = K ∧ i < I) := by omega
            have HL := Lib.hid hlow
            clear hlow
            go_wp2_with (first | (go_at_call 40; refine (itoa_any _ (by omega) (by omega) _ (HT.out.later hBi.out)).mono ?_; rintro e w3 ⟨rfl, hb3'⟩; have hb3 := Lib.hid (Below.next hBi.out (Nat.le_refl _) hb3'); clear hb3') | (go_at_call 41; refine (contains_to true zs v _ _ (HV.out.later hb3.out) hbig (by rw [cand_data_4 _ i hi3 hk1]; exact HF.out.taken k i hi3 HL.out)).mono ?_; rintro e w4 ⟨rfl, rfl⟩))
            go_roundg (4 - (i + 1))
            case measure => omega
            case rel => exact ⟨i + 1, by go_num, by omega, Nat.le_refl _, by have := HL.out; omega, hb3⟩
      · have hkK : k < K := by omega
        go_wp2
        go_roundg (K + 1 - (k + 1))
        case measure => omega
        case rel => exact ⟨k + 1, by go_num, by omega, Nat.le_refl _, hBi⟩
end Go.Proofs.YtbbibngagdpdcaaGreatDoor
