import Derived.Test.YtbbibngagdpdcaaDoorA7
import Derived.Deep.LoopGhost
namespace Go.Proofs.YtbbibngagdpdcaaDoor
open Go Go.RowKit
open Go.Shelf

/-- THE SLICE v OF STRINGS READS AS zs IN w. -/
def StrsAt (w : World) (v : Value) (zs : List (List UInt8)) : Prop :=
  ∃ a c, v = .slice a zs.length c ∧ (zs = [] ∨ ∃ b off, a = some ⟨b, off, none⟩ ∧ b < w.heap.size ∧ ∀ j, j < zs.length → w.cell? ⟨b, off + j, none⟩ = some (strV (zs.getD j [])))

theorem StrsAt.later {w w' : World} {v : Value} {zs : List (List UInt8)} (h : StrsAt w v zs) (hb : Below w.heap.size w w') : StrsAt w' v zs := by
  obtain ⟨a, c, rfl, h⟩ := h
  refine ⟨a, c, rfl, ?_⟩
  rcases h with h | ⟨b, off, rfl, hlt, hc⟩
  · exact .inl h
  · exact .inr ⟨b, off, rfl, Nat.lt_of_lt_of_le hlt hb.size, fun j hj => (hb.cell (p := ⟨b, off + j, none⟩) hlt).trans (hc j hj)⟩

theorem strV_data (s : ByteArray) : strV s.data.toList = .string s := by cases s; rfl

theorem containsS_eq (zs : List (List UInt8)) (x : ByteArray) : Lib.containsS (zs.map fun l => (⟨l.toArray⟩ : ByteArray)) x = zs.contains x.data.toList := by
  rw [Bool.eq_iff_iff, Lib.containsS_iff]
  simp only [List.mem_map, List.contains_iff_mem]
  constructor
  · rintro ⟨l, hl, rfl⟩
    exact hl
  · intro h
    exact ⟨_, h, by cases x; rfl⟩

theorem contains_to (r : Bool) (zs : List (List UInt8)) (v : Value) (x : ByteArray) (w : World) (h : StrsAt w v zs) (hbig : zs.length ≤ 9223372036854775807) (hx : zs.contains x.data.toList = r) :
    Calls Tryd.prog 30 #[v, .string x] w fun e w' => e = .returned (.bool r) ∧ w = w' := by
  obtain ⟨a, c, rfl, h⟩ := h
  rcases h with rfl | ⟨b, off, rfl, hlt, hc⟩
  · refine (Tryd.slices_Contains_string_empty a c x w).mono ?_
    rintro e w' ⟨rfl, rfl⟩
    exact ⟨ret_bool (by rw [← hx]; rfl), rfl⟩
  · refine (Tryd.slices_Contains_string b off zs.length c (zs.map fun l => (⟨l.toArray⟩ : ByteArray)) x w (by simp) hbig (fun j hj => ?_)).mono ?_
    · have hj' : j < zs.length := by simpa using hj
      rw [hc j hj']
      simp [strV, List.getElem?_eq_getElem hj']
    · rintro e w' ⟨rfl, rfl⟩
      refine ⟨ret_bool ?_, rfl⟩
      rw [List.take_of_length_le (by simp), containsS_eq, hx]

def letter (sp : Int) (i : Nat) : UInt8 := if sp = 1 then (if i = 0 then 120 else if i = 1 then 121 else 122) else (if i = 0 then 88 else if i = 1 then 89 else 90)

/-- THE NAMES THAT name.Fresh TRIES, IN ITS ORDER. -/
def cand (sp : Int) (k i : Nat) : List UInt8 := letter sp i :: (if k = 0 then [] else Lib.itoa k)

theorem ext3 (a b c : UInt8) (i : Nat) (hi : i < 3) : ((⟨#[a, b, c]⟩ : ByteArray).extract i (i + 1)).data.toList = [if i = 0 then a else if i = 1 then b else c] := by
  rw [Lib.extract_data]
  match i, hi with
  | 0, _ | 1, _ | 2, _ => rfl

theorem ext3x (i : Nat) (hi : i < 3) : ((⟨#[120, 121, 122]⟩ : ByteArray).extract i (i + 1)).data.toList = [letter 1 i] := by
  rw [ext3 _ _ _ i hi]; rfl
theorem ext3X (i : Nat) (hi : i < 3) : ((⟨#[88, 89, 90]⟩ : ByteArray).extract i (i + 1)).data.toList = [letter 4 i] := by
  rw [ext3 _ _ _ i hi]; rfl

structure FirstFree (sp : Int) (zs : List (List UInt8)) (K I : Nat) : Prop where
  lt : I < 3
  small : K < 1000000000
  free : zs.contains (cand sp K I) = false
  taken : ∀ k i, i < 3 → (k < K ∨ (k = K ∧ i < I)) → zs.contains (cand sp k i) = true

/-- strconv's TABLE READS AS ITS TEXT LAYS IT. -/
structure TabOk (w : World) : Prop where
  tab : Lib.TabIs Tryd.prog w "internal/strconv.uint64pow10" .u64 Lib.pow10Tab
  lt : 1 < w.heap.size

theorem TabOk.later {w w' : World} (h : TabOk w) (hb : Below w.heap.size w w') : TabOk w' :=
  ⟨var?_below hb (by kernel_rfl) h.lt h.tab, Nat.lt_of_lt_of_le h.lt hb.size⟩

theorem below_growing (w : World) (k : Nat) (os : Array Obj) : Below w.heap.size w (Go.Sort.grow (w.drewN k) os) :=
  ⟨rfl, rfl, rfl, by show w.heap.size ≤ (w.heap ++ os).size; simp, fun i hi => by show (w.heap ++ os)[i]? = w.heap[i]?; rw [Array.getElem?_append_left hi]⟩

theorem itoa_any (n : Int) (h0 : 0 ≤ n) (h1 : n < 1000000000) (w : World) (ht : TabOk w) : Calls Tryd.prog 29 #[.int .i64 n] w fun e w' => e = .returned (.string ⟨(Lib.itoa n).toArray⟩) ∧ Below w.heap.size w w' := by
  refine (Tryd.strconv_Itoa n (by omega) (by omega) w ht.tab).mono ?_
  rintro e w' ⟨rfl, k, os, rfl⟩
  exact ⟨rfl, below_growing w k os⟩


theorem dec_len (u : Nat) : (Lib.decDigits u).length ≤ u + 1 := by
  induction u using Nat.strongRecOn with
  | ind u ih =>
    rw [Lib.decDigits]
    split
    · simp
    · have := ih (u / 10) (by omega)
      simp only [List.length_append, List.length_singleton]
      omega

theorem itoa_len (k : Nat) : (Lib.itoa k).length ≤ k + 1 := by
  unfold Lib.itoa
  rw [if_neg (by omega)]
  exact dec_len k

theorem cand_data_1 (k i : Nat) (hi : i < 3) (hk : 0 < k) : ((⟨#[120, 121, 122]⟩ : ByteArray).extract i (i + 1) ++ ⟨(Lib.itoa k).toArray⟩).data.toList = cand 1 k i := by
  rw [ByteArray.data_append, Array.toList_append, ext3x i hi, cand, if_neg (by omega)]
  simp
theorem cand_zero_1 (i : Nat) (hi : i < 3) : ((⟨#[120, 121, 122]⟩ : ByteArray).extract i (i + 1)).data.toList = cand 1 0 i := by
  rw [ext3x i hi, cand, if_pos rfl]

theorem add_small_1 (k i : Nat) (hi : i < 3) (hk : k < 1000000000) : ((⟨#[120, 121, 122]⟩ : ByteArray).extract i (i + 1)).size + (⟨(Lib.itoa k).toArray⟩ : ByteArray).size ≤ 9223372036854775807 := by
  have h1 : ((⟨#[120, 121, 122]⟩ : ByteArray).extract i (i + 1)).size ≤ 3 := by
    have := congrArg List.length (ext3x i hi)
    simp only [Array.length_toList, List.length_singleton] at this
    exact Nat.le_trans (Nat.le_of_eq this) (by omega)
  have h2 : (⟨(Lib.itoa k).toArray⟩ : ByteArray).size = (Lib.itoa k).length := rfl
  have h3 := itoa_len k
  omega

set_option maxHeartbeats 2000000 in
theorem fresh_1 (zs : List (List UInt8)) (v : Value) (K I : Nat) (hf : FirstFree 1 zs K I) (w : World) (ht : TabOk w) (hv : StrsAt w v zs) (hbig : zs.length ≤ 9223372036854775807) :
    Calls Tryd.prog 15 #[.int .i64 1, v] w fun e w' => e = .returned (.tuple #[strV (cand 1 K I), .bool true]) ∧ Below w.heap.size w w' := by
  have HF := Lib.hid hf
  have HT := Lib.hid ht
  have HV := Lib.hid hv
  have hI := hf.lt
  have hK := hf.small
  have hk88 : (kindL [88] == 6 || kindL [88] == 9) = false := by decide
  clear hf ht hv
  go_enter Tryd.func15, Tryd.ntmps15
  go_wp2_with (first | (go_at_call 27; refine (space_1 _).mono ?_; rintro e w1 ⟨rfl, hb1⟩) | (go_at_call 28; refine (may_1 _ _ (by decide)).mono ?_; rintro e w2 ⟨rfl, hb2⟩))
  have HB := Lib.hid (Below.next hb1 (Nat.le_refl _) hb2)
  clear hb1 hb2
  go_loopg [7] (K + 1) (fun g s7 wr => ∃ k : Nat, s7 = .int .i64 k ∧ k ≤ K ∧ K + 1 - k ≤ g ∧ Hid (Below w.heap.size w wr))
  case atStart => exact ⟨0, rfl, Nat.zero_le _, Nat.le_refl _, HB⟩
  case round =>
    obtain ⟨k, rfl, hk, hg, hB⟩ := hrel
    clear HB
    go_wp2_with fail
    obtain ⟨wo, rfl⟩ : ∃ wo : World, wo = wr := ⟨_, rfl⟩
    go_loopg [19] 4 (fun g2 s19 wi => ∃ i : Nat, s19 = .int .i64 i ∧ i ≤ 3 ∧ 4 - i ≤ g2 ∧ (k < K ∨ i ≤ I) ∧ Hid (Below w.heap.size w wi))
    case atStart => exact ⟨0, rfl, Nat.zero_le _, Nat.le_refl _, Or.inr (Nat.zero_le _), hB⟩
    case round =>
      obtain ⟨i, rfl, hi, hg2, hki, hBi⟩ := hrel
      clear hB
      by_cases hi3 : i < 3
      · by_cases hk0 : k = 0
        · subst hk0
          by_cases hit : K = 0 ∧ i = I
          · obtain ⟨rfl, rfl⟩ := hit
            go_wp2_with (go_at_call 30; refine (contains_to false zs v _ _ (HV.out.later hBi.out) hbig (by rw [cand_zero_1 i hi3]; exact HF.out.free)).mono ?_; rintro e w3 ⟨rfl, rfl⟩)
            go_ret2
            exact ⟨by rw [← cand_zero_1 i hi3, strV_data]; rfl, hBi.out⟩
          · have hlow : 0 < K ∨ ((0 : Nat) = K ∧ i < I) := by omega
            have HL := Lib.hid hlow
            clear hlow
            go_wp2_with (go_at_call 30; refine (contains_to true zs v _ _ (HV.out.later hBi.out) hbig (by rw [cand_zero_1 i hi3]; exact HF.out.taken 0 i hi3 HL.out)).mono ?_; rintro e w3 ⟨rfl, rfl⟩)
            go_roundg (4 - (i + 1))
            case measure => omega
            case rel => exact ⟨i + 1, by go_num, by omega, Nat.le_refl _, by have := HL.out; omega, hBi⟩
        · have hk1 : 0 < k := by omega
          have hkp : (0 : Int) < (k : Int) := by omega
          have hadd : ∀ W : World, (Op.stringOp .add ((⟨#[120, 121, 122]⟩ : ByteArray).extract i (i + 1)) ⟨(Lib.itoa k).toArray⟩).run Tryd.prog W = .ok (.string ((⟨#[120, 121, 122]⟩ : ByteArray).extract i (i + 1) ++ ⟨(Lib.itoa k).toArray⟩)) W := fun W => run_string_add_sum W _ _ (add_small_1 k i hi3 (by omega))
          by_cases hit : K = k ∧ i = I
          · obtain ⟨rfl, rfl⟩ := hit
            go_wp2_with (first | (go_at_call 29; refine (itoa_any _ (by omega) (by omega) _ (HT.out.later hBi.out)).mono ?_; rintro e w3 ⟨rfl, hb3'⟩; have hb3 := Lib.hid (Below.next hBi.out (Nat.le_refl _) hb3'); clear hb3') | (go_at_call 30; refine (contains_to false zs v _ _ (HV.out.later hb3.out) hbig (by rw [cand_data_1 _ i hi3 hk1]; exact HF.out.free)).mono ?_; rintro e w4 ⟨rfl, rfl⟩))
            go_ret2
            exact ⟨by rw [← cand_data_1 _ i hi3 hk1, strV_data]; rfl, hb3.out⟩
          · have hlow : k < K ∨ (k = K ∧ i < I) := by omega
            have HL := Lib.hid hlow
            clear hlow
            go_wp2_with (first | (go_at_call 29; refine (itoa_any _ (by omega) (by omega) _ (HT.out.later hBi.out)).mono ?_; rintro e w3 ⟨rfl, hb3'⟩; have hb3 := Lib.hid (Below.next hBi.out (Nat.le_refl _) hb3'); clear hb3') | (go_at_call 30; refine (contains_to true zs v _ _ (HV.out.later hb3.out) hbig (by rw [cand_data_1 _ i hi3 hk1]; exact HF.out.taken k i hi3 HL.out)).mono ?_; rintro e w4 ⟨rfl, rfl⟩))
            go_roundg (4 - (i + 1))
            case measure => omega
            case rel => exact ⟨i + 1, by go_num, by omega, Nat.le_refl _, by have := HL.out; omega, hb3⟩
      · have hkK : k < K := by omega
        go_wp2
        go_roundg (K + 1 - (k + 1))
        case measure => omega
        case rel => exact ⟨k + 1, by go_num, by omega, Nat.le_refl _, hBi⟩

theorem cand_data_4 (k i : Nat) (hi : i < 3) (hk : 0 < k) : ((⟨#[88, 89, 90]⟩ : ByteArray).extract i (i + 1) ++ ⟨(Lib.itoa k).toArray⟩).data.toList = cand 4 k i := by
  rw [ByteArray.data_append, Array.toList_append, ext3X i hi, cand, if_neg (by omega)]
  simp
theorem cand_zero_4 (i : Nat) (hi : i < 3) : ((⟨#[88, 89, 90]⟩ : ByteArray).extract i (i + 1)).data.toList = cand 4 0 i := by
  rw [ext3X i hi, cand, if_pos rfl]

theorem add_small_4 (k i : Nat) (hi : i < 3) (hk : k < 1000000000) : ((⟨#[88, 89, 90]⟩ : ByteArray).extract i (i + 1)).size + (⟨(Lib.itoa k).toArray⟩ : ByteArray).size ≤ 9223372036854775807 := by
  have h1 : ((⟨#[88, 89, 90]⟩ : ByteArray).extract i (i + 1)).size ≤ 3 := by
    have := congrArg List.length (ext3X i hi)
    simp only [Array.length_toList, List.length_singleton] at this
    exact Nat.le_trans (Nat.le_of_eq this) (by omega)
  have h2 : (⟨(Lib.itoa k).toArray⟩ : ByteArray).size = (Lib.itoa k).length := rfl
  have h3 := itoa_len k
  omega

set_option maxHeartbeats 2000000 in
theorem fresh_4 (zs : List (List UInt8)) (v : Value) (K I : Nat) (hf : FirstFree 4 zs K I) (w : World) (ht : TabOk w) (hv : StrsAt w v zs) (hbig : zs.length ≤ 9223372036854775807) :
    Calls Tryd.prog 15 #[.int .i64 4, v] w fun e w' => e = .returned (.tuple #[strV (cand 4 K I), .bool true]) ∧ Below w.heap.size w w' := by
  have HF := Lib.hid hf
  have HT := Lib.hid ht
  have HV := Lib.hid hv
  have hI := hf.lt
  have hK := hf.small
  have hk88 : (kindL [88] == 7) = true := by decide
  clear hf ht hv
  go_enter Tryd.func15, Tryd.ntmps15
  go_wp2_with (first | (go_at_call 27; refine (space_4 _).mono ?_; rintro e w1 ⟨rfl, hb1⟩) | (go_at_call 28; refine (may_4 _ _ (by decide)).mono ?_; rintro e w2 ⟨rfl, hb2⟩))
  have HB := Lib.hid (Below.next hb1 (Nat.le_refl _) hb2)
  clear hb1 hb2
  go_loopg [7] (K + 1) (fun g s7 wr => ∃ k : Nat, s7 = .int .i64 k ∧ k ≤ K ∧ K + 1 - k ≤ g ∧ Hid (Below w.heap.size w wr))
  case atStart => exact ⟨0, rfl, Nat.zero_le _, Nat.le_refl _, HB⟩
  case round =>
    obtain ⟨k, rfl, hk, hg, hB⟩ := hrel
    clear HB
    go_wp2_with fail
    obtain ⟨wo, rfl⟩ : ∃ wo : World, wo = wr := ⟨_, rfl⟩
    go_loopg [19] 4 (fun g2 s19 wi => ∃ i : Nat, s19 = .int .i64 i ∧ i ≤ 3 ∧ 4 - i ≤ g2 ∧ (k < K ∨ i ≤ I) ∧ Hid (Below w.heap.size w wi))
    case atStart => exact ⟨0, rfl, Nat.zero_le _, Nat.le_refl _, Or.inr (Nat.zero_le _), hB⟩
    case round =>
      obtain ⟨i, rfl, hi, hg2, hki, hBi⟩ := hrel
      clear hB
      by_cases hi3 : i < 3
      · by_cases hk0 : k = 0
        · subst hk0
          by_cases hit : K = 0 ∧ i = I
          · obtain ⟨rfl, rfl⟩ := hit
            go_wp2_with (go_at_call 30; refine (contains_to false zs v _ _ (HV.out.later hBi.out) hbig (by rw [cand_zero_4 i hi3]; exact HF.out.free)).mono ?_; rintro e w3 ⟨rfl, rfl⟩)
            go_ret2
            exact ⟨by rw [← cand_zero_4 i hi3, strV_data]; rfl, hBi.out⟩
          · have hlow : 0 < K ∨ ((0 : Nat) = K ∧ i < I) := by omega
            have HL := Lib.hid hlow
            clear hlow
            go_wp2_with (go_at_call 30; refine (contains_to true zs v _ _ (HV.out.later hBi.out) hbig (by rw [cand_zero_4 i hi3]; exact HF.out.taken 0 i hi3 HL.out)).mono ?_; rintro e w3 ⟨rfl, rfl⟩)
            go_roundg (4 - (i + 1))
            case measure => omega
            case rel => exact ⟨i + 1, by go_num, by omega, Nat.le_refl _, by have := HL.out; omega, hBi⟩
        · have hk1 : 0 < k := by omega
          have hkp : (0 : Int) < (k : Int) := by omega
          have hadd : ∀ W : World, (Op.stringOp .add ((⟨#[88, 89, 90]⟩ : ByteArray).extract i (i + 1)) ⟨(Lib.itoa k).toArray⟩).run Tryd.prog W = .ok (.string ((⟨#[88, 89, 90]⟩ : ByteArray).extract i (i + 1) ++ ⟨(Lib.itoa k).toArray⟩)) W := fun W => run_string_add_sum W _ _ (add_small_4 k i hi3 (by omega))
          by_cases hit : K = k ∧ i = I
          · obtain ⟨rfl, rfl⟩ := hit
            go_wp2_with (first | (go_at_call 29; refine (itoa_any _ (by omega) (by omega) _ (HT.out.later hBi.out)).mono ?_; rintro e w3 ⟨rfl, hb3'⟩; have hb3 := Lib.hid (Below.next hBi.out (Nat.le_refl _) hb3'); clear hb3') | (go_at_call 30; refine (contains_to false zs v _ _ (HV.out.later hb3.out) hbig (by rw [cand_data_4 _ i hi3 hk1]; exact HF.out.free)).mono ?_; rintro e w4 ⟨rfl, rfl⟩))
            go_ret2
            exact ⟨by rw [← cand_data_4 _ i hi3 hk1, strV_data]; rfl, hb3.out⟩
          · have hlow : k < K ∨ (k = K ∧ i < I) := by omega
            have HL := Lib.hid hlow
            clear hlow
            go_wp2_with (first | (go_at_call 29; refine (itoa_any _ (by omega) (by omega) _ (HT.out.later hBi.out)).mono ?_; rintro e w3 ⟨rfl, hb3'⟩; have hb3 := Lib.hid (Below.next hBi.out (Nat.le_refl _) hb3'); clear hb3') | (go_at_call 30; refine (contains_to true zs v _ _ (HV.out.later hb3.out) hbig (by rw [cand_data_4 _ i hi3 hk1]; exact HF.out.taken k i hi3 HL.out)).mono ?_; rintro e w4 ⟨rfl, rfl⟩))
            go_roundg (4 - (i + 1))
            case measure => omega
            case rel => exact ⟨i + 1, by go_num, by omega, Nat.le_refl _, by have := HL.out; omega, hb3⟩
      · have hkK : k < K := by omega
        go_wp2
        go_roundg (K + 1 - (k + 1))
        case measure => omega
        case rel => exact ⟨k + 1, by go_num, by omega, Nat.le_refl _, hBi⟩
end Go.Proofs.YtbbibngagdpdcaaDoor
