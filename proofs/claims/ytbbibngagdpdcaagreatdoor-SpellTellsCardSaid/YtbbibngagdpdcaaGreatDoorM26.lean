/-
  PROVED HERE: a part of the proof of the card 'SpellTellsCardSaid': what functions of the program, or of the document's packages, that SpellTells reaches compute (texts H7, H8). CONDITIONS: each theorem's own.
-/
import Derived.Test.YtbbibngagdpdcaaGreatDoorM15
import Derived.Laws.IdiomStrings
import Derived.Lib.ItoaLen
import Derived.Test.YtbbibngagdpdcaaGreatDoorM24
namespace Go.Proofs.YtbbibngagdpdcaaGreatDoor
open Go Go.RowKit
open Go.Shelf

theorem dec_small {n : Nat} (h : n < 10) : Lib.decDigits n = [UInt8.ofNat (48 + n % 10)] := by
  rw [Lib.decDigits, dif_pos h, Nat.mod_eq_of_lt h]

theorem dec_big {n : Nat} (h : ¬ n < 10) : Lib.decDigits n = Lib.decDigits (n / 10) ++ [UInt8.ofNat (48 + n % 10)] := by
  conv => lhs; rw [Lib.decDigits]
  rw [dif_neg h]

theorem pow_div {n k : Nat} (h : n < 10 ^ (k + 1)) : n / 10 < 10 ^ k := by
  rw [Nat.pow_succ] at h
  exact Nat.div_lt_of_lt_mul (by rw [Nat.mul_comm]; exact h)

/-- ONE ROUND FEWER. -/
theorem round_left {n i : Nat} (hi : i < 20) (h : n < 10 ^ (20 - i)) (hn : ¬ n < 10) : i + 1 < 20 ∧ n / 10 < 10 ^ (20 - (i + 1)) := by
  obtain ⟨k, hk⟩ : ∃ k, 20 - i = k + 1 := ⟨20 - i - 1, by omega⟩
  rw [hk] at h
  have h2 := pow_div h
  have hk2 : 20 - (i + 1) = k := by omega
  refine ⟨?_, by rw [hk2]; exact h2⟩
  rcases Nat.eq_zero_or_pos k with rfl | h0
  · rw [Nat.pow_zero] at h2
    omega
  · omega

theorem one_more (d : UInt8) (s : ByteArray) : ((⟨#[d]⟩ : ByteArray) ++ s).data.toList = d :: s.data.toList := by
  rw [ByteArray.data_append, Array.toList_append]
  rfl

theorem one_more_size (d : UInt8) (s : ByteArray) : ((⟨#[d]⟩ : ByteArray) ++ s).size = s.size + 1 := by
  rw [ByteArray.size_append]
  show 1 + s.size = _
  omega

theorem itoa_nat (N : Nat) : Lib.itoa (N : Int) = Lib.decDigits N := by
  unfold Lib.itoa
  rw [if_neg (by omega)]
  simp

theorem dec_small_len (N : Nat) (hN : N < 1000000000) : (Lib.decDigits N).length ≤ 30 := by
  have h := Lib.itoa_length_le (N : Int) (by omega) (by omega)
  rw [itoa_nat] at h
  omega

theorem byte_of (d : Nat) (h : d < 10) : ((UInt8.ofNat (48 + d)).toNat : Int) = 48 + (d : Int) := by
  rw [UInt8.toNat_ofNat']
  omega

set_option maxHeartbeats 1000000 in
set_option maxRecDepth 100000 in
theorem rDigits_any (N : Nat) (w : World) (hN : N < 1000000000) :
    Calls Tryz.prog 45 #[.int .i64 N] w fun e w' => e = .returned (strV (Lib.decDigits N)) ∧ Below w.heap.size w w' := by
  have hlen := dec_small_len N hN
  have HLEN := Lib.hid hlen
  clear hlen
  go_enter Tryz.func45, Tryz.ntmps45
  go_wp2
  go_loopg [0, 3, 4] 20 (fun g s0 s3 s4 wr => ∃ (i n : Nat) (s : ByteArray), s0 = .int .i64 n ∧ s3 = .string s ∧ s4 = .int .i64 i ∧ i < 20 ∧ 20 - i ≤ g ∧ n ≤ N ∧ s.size ≤ 30 ∧ Hid (n < 10 ^ (20 - i)) ∧ Hid (Lib.decDigits n ++ s.data.toList = Lib.decDigits N) ∧ Hid (Below w.heap.size w wr))
  case atStart => exact ⟨0, N, ⟨#[]⟩, rfl, rfl, rfl, by omega, by omega, Nat.le_refl _, by decide, Nat.lt_of_lt_of_le hN (by decide), by simp [Hid], Below.refl _ _⟩
  case round =>
    obtain ⟨i, n, s, rfl, rfl, rfl, hi, hg, hn, hsz, hp, hd, hB⟩ := hrel
    obtain ⟨d, hdd⟩ : ∃ d, n % 10 = d := ⟨_, rfl⟩
    obtain ⟨q, hqq⟩ : ∃ q, n / 10 = q := ⟨_, rfl⟩
    have hd9 : d < 10 := by omega
    have hqn : q ≤ N := by omega
    obtain ⟨bt, hbt⟩ : ∃ bt, UInt8.ofNat (48 + d) = bt := ⟨_, rfl⟩
    have hbn : ((bt.toNat : Nat) : Int) = 48 + (d : Int) := by rw [← hbt]; exact byte_of d hd9
    have HBT := Lib.hid hbt
    have hconv : (Go.convert 69 9 (.slice (some ⟨wr.heap.size, 0, none⟩) 1 1)).run Tryz.prog (wr.alloc (.cells #[.int .u8 (48 + (d : Int))] 5)) = .ok (.string ⟨#[bt]⟩) (wr.alloc (.cells #[.int .u8 (48 + (d : Int))] 5)) := by
      refine run_convert_bytes_back _ 69 9 5 _ 1 [bt] Tryz.underlying69 Tryz.underlying5 Tryz.underlying9 (fun j hj => ?_)
      obtain rfl : j = 0 := by simpa using hj
      have e : ((⟨wr.heap.size, 0, none⟩ : Addr).add 0) = ⟨wr.heap.size, 0, none⟩ := by unfold Addr.add; split <;> simp_all
      rw [e, new_cell _ _ _ _ _ rfl]
      simp [hbn]
    have hadd : ∀ W : World, (Op.stringOp .add ⟨#[bt]⟩ s).run Tryz.prog W = .ok (.string ((⟨#[bt]⟩ : ByteArray) ++ s)) W := fun W => run_string_add_sum W _ _ (by have h1 : (⟨#[bt]⟩ : ByteArray).size = 1 := rfl; omega)
    clear hbt hbn
    have hdz : (n : Int) % 10 = (d : Int) := by omega
    have h1 := one_more (bt) s
    by_cases h10 : n < 10
    · have hr : (bt) :: s.data.toList = Lib.decDigits N := by
        rw [← hd.out, dec_small h10, hdd, HBT.out]; rfl
      have HR : Hid (((⟨#[bt]⟩ : ByteArray) ++ s).data.toList = Lib.decDigits N) := h1.trans hr
      have hqz : (n : Int) / 10 = 0 := by omega
      clear hqq hdd hr h1
      go_wp2
      go_ret
      exact ⟨congrArg _ (str_list _ _ HR.out), (hB.out.alloc hB.out.size _)⟩
    · have hr : Lib.decDigits q ++ ((bt) :: s.data.toList) = Lib.decDigits N := by
        rw [← hd.out, dec_big h10, hdd, hqq, HBT.out, List.append_assoc]; rfl
      rw [← h1] at hr
      have HR := Lib.hid hr
      have hsl : ((⟨#[bt]⟩ : ByteArray) ++ s).size ≤ 30 := by
        have h2 := congrArg List.length hr
        rw [List.length_append] at h2
        have h3 := HLEN.out
        have h4 : (((⟨#[bt]⟩ : ByteArray) ++ s).data.toList).length = ((⟨#[bt]⟩ : ByteArray) ++ s).size := Array.length_toList
        omega
      have HSL := Lib.hid hsl
      obtain ⟨r1, r2⟩ := round_left hi hp.out h10
      rw [hqq] at r2
      have HR2 := Lib.hid r2
      have hqz : (n : Int) / 10 = (q : Int) := by omega
      have hq1 : ((q : Int) == 0) = false := by rw [beq_eq_false_iff_ne]; omega
      clear hqq hdd hr h1 hsl r2
      go_wp2
      go_roundg (20 - (i + 1))
      case measure => omega
      case rel => exact ⟨i + 1, q, _, by go_num, rfl, by go_num, r1, Nat.le_refl _, hqn, HSL.out, HR2, HR, (hB.out.alloc hB.out.size _)⟩
end Go.Proofs.YtbbibngagdpdcaaGreatDoor

namespace Go.Proofs.YtbbibngagdpdcaaGreatDoor
open Go Go.RowKit
open Go.Shelf

theorem candAt_big (sp : Int) (i : Nat) (h : 3 ≤ i) : ((⟨#[letter sp (i % 3)]⟩ : ByteArray) ++ ⟨(Lib.decDigits (i / 3)).toArray⟩).data.toList = candAt sp i := by
  rw [one_more, candAt, cand, if_neg (by omega), itoa_nat]

theorem candAt_low (sp : Int) (i : Nat) (h : i < 3) : (⟨#[letter sp (i % 3)]⟩ : ByteArray).data.toList = candAt sp i := by
  rw [candAt, cand, if_pos (by omega)]

set_option maxHeartbeats 2000000 in
set_option maxRecDepth 100000 in
theorem rFresh1_any (zs : List (List UInt8)) (v : Value) (w : World) (hv : StrsAt w v zs) (hbig : zs.length ≤ 100000000) :
    Calls Tryz.prog 20 #[.int .i64 1, v] w fun e w' => ∃ K I, FirstFree 1 zs K I ∧ e = .returned (.tuple #[strV (cand 1 K I), .bool true]) ∧ Below w.heap.size w w' := by
  obtain ⟨n0, hn0, hfree, htk⟩ := free_within 1 zs
  have hFF := firstFree_at 1 zs n0 (by omega) hfree htk
  have hcc : cand 1 (n0 / 3) (n0 % 3) = candAt 1 n0 := rfl
  obtain ⟨a, c, rfl, hv'⟩ := id hv
  have HV := Lib.hid hv
  have HFR := Lib.hid hfree
  have HTK := Lib.hid htk
  have HFF := Lib.hid hFF
  have HCC := Lib.hid hcc
  clear hv hv' hfree htk hFF hcc
  go_enter Tryz.func20, Tryz.ntmps20
  go_wp2
  go_loopg [7] (n0 + 1) (fun g s7 wr => ∃ i : Nat, s7 = .int .i64 i ∧ i ≤ n0 ∧ n0 + 1 - i ≤ g ∧ Hid (∀ j, j < 3 → wr.cell? ⟨w.heap.size + 1, j, none⟩ = some (.string ⟨#[letter 1 j]⟩)) ∧ Hid (w.heap.size + 1 < wr.heap.size) ∧ Hid (Below w.heap.size w wr))
  case atStart =>
    refine ⟨0, rfl, Nat.zero_le _, Nat.le_refl _, ?_, by simp [Hid], ?_⟩
    · intro j hj
      match j, hj with
      | 0, _ | 1, _ | 2, _ => exact new_cell _ _ _ _ _ (by simp)
    · exact ((Below.refl _ _).alloc (Nat.le_refl _) _).alloc (by simp) _
  case round =>
    obtain ⟨i, rfl, hi, hg, hL, hLz, hB⟩ := hrel
    obtain ⟨j, hj⟩ : ∃ j, i % 3 = j := ⟨_, rfl⟩
    obtain ⟨q, hq⟩ : ∃ q, i / 3 = q := ⟨_, rfl⟩
    have hj3 : j < 3 := by omega
    have hq9 : q < 1000000000 := by omega
    have hjz : (i : Int) % 3 = (j : Int) := by omega
    have hqz : (i : Int) / 3 = (q : Int) := by omega
    have e1 := hL.out j hj3
    have hiz : (i : Int) ≤ (zs.length : Int) := by omega
    by_cases h3 : 3 ≤ i
    · have h3z : (3 : Int) ≤ (i : Int) := by omega
      have hcb := candAt_big 1 i h3
      rw [hj, hq] at hcb
      have HCB := Lib.hid hcb
      have hdl := dec_small_len q hq9
      have HDL := Lib.hid hdl
      clear hj hq hcb hdl
      go_wp2_with fail
      refine (rDigits_any q _ hq9).mono ?_
      rintro e w2 ⟨rfl, hb2⟩
      have hadd : ∀ W : World, (Op.stringOp .add ⟨#[letter 1 j]⟩ ⟨(Lib.decDigits q).toArray⟩).run Tryz.prog W = .ok (.string ((⟨#[letter 1 j]⟩ : ByteArray) ++ ⟨(Lib.decDigits q).toArray⟩)) W := fun W => run_string_add_sum W _ _ (by
        have h1 : (⟨#[letter 1 j]⟩ : ByteArray).size = 1 := rfl
        have h2 : (⟨(Lib.decDigits q).toArray⟩ : ByteArray).size = (Lib.decDigits q).length := rfl
        have := HDL.out
        omega)
      have HB2 := Lib.hid (Below.next hB.out (Nat.le_refl _) hb2)
      have hL2 : Hid (∀ j, j < 3 → w2.cell? ⟨w.heap.size + 1, j, none⟩ = some (.string ⟨#[letter 1 j]⟩)) := fun j hj => (hb2.cell (p := ⟨w.heap.size + 1, j, none⟩) hLz.out).trans (hL.out j hj)
      have hLz2 : Hid (w.heap.size + 1 < w2.heap.size) := Nat.lt_of_lt_of_le hLz.out hb2.size
      clear hb2 hL hLz e1 hB
      dsimp only [strV]
      go_wp2_with fail
      by_cases hit : i = n0
      · refine (in_to false zs _ _ _ (HV.out.later HB2.out) (by omega) (by rw [HCB.out, hit]; exact HFR.out)).mono ?_
        rintro e w3 ⟨rfl, rfl⟩
        clear hadd
        have HIT := Lib.hid hit
        clear hit
        dsimp only
        go_wp2
        go_ret2
        exact ⟨_, _, HFF.out, by rw [HCC.out, ← HIT.out, ← HCB.out, strV_data]; rfl, HB2.out⟩
      · refine (in_to true zs _ _ _ (HV.out.later HB2.out) (by omega) (by rw [HCB.out]; exact HTK.out i (by omega))).mono ?_
        rintro e w3 ⟨rfl, rfl⟩
        clear hadd
        dsimp only
        go_wp2
        go_roundg (n0 + 1 - (i + 1))
        case measure => omega
        case rel => exact ⟨i + 1, by go_num, by omega, Nat.le_refl _, hL2, hLz2, HB2.out⟩
    · have h3z : ¬ (3 : Int) ≤ (i : Int) := by omega
      have hcb := candAt_low 1 i (by omega)
      rw [hj] at hcb
      have HCB := Lib.hid hcb
      clear hj hq hcb
      go_wp2_with fail
      clear e1
      by_cases hit : i = n0
      · refine (in_to false zs _ _ _ (HV.out.later hB.out) (by omega) (by rw [HCB.out, hit]; exact HFR.out)).mono ?_
        rintro e w3 ⟨rfl, rfl⟩
        have HIT := Lib.hid hit
        clear hit
        dsimp only
        go_wp2
        go_ret2
        exact ⟨_, _, HFF.out, by rw [HCC.out, ← HIT.out, ← HCB.out]; rfl, hB.out⟩
      · refine (in_to true zs _ _ _ (HV.out.later hB.out) (by omega) (by rw [HCB.out]; exact HTK.out i (by omega))).mono ?_
        rintro e w3 ⟨rfl, rfl⟩
        dsimp only
        go_wp2
        go_roundg (n0 + 1 - (i + 1))
        case measure => omega
        case rel => exact ⟨i + 1, by go_num, by omega, Nat.le_refl _, hL, hLz, hB.out⟩

set_option maxHeartbeats 2000000 in
set_option maxRecDepth 100000 in
theorem rFresh4_any (zs : List (List UInt8)) (v : Value) (w : World) (hv : StrsAt w v zs) (hbig : zs.length ≤ 100000000) :
    Calls Tryz.prog 20 #[.int .i64 4, v] w fun e w' => ∃ K I, FirstFree 4 zs K I ∧ e = .returned (.tuple #[strV (cand 4 K I), .bool true]) ∧ Below w.heap.size w w' := by
  obtain ⟨n0, hn0, hfree, htk⟩ := free_within 4 zs
  have hFF := firstFree_at 4 zs n0 (by omega) hfree htk
  have hcc : cand 4 (n0 / 3) (n0 % 3) = candAt 4 n0 := rfl
  obtain ⟨a, c, rfl, hv'⟩ := id hv
  have HV := Lib.hid hv
  have HFR := Lib.hid hfree
  have HTK := Lib.hid htk
  have HFF := Lib.hid hFF
  have HCC := Lib.hid hcc
  clear hv hv' hfree htk hFF hcc
  go_enter Tryz.func20, Tryz.ntmps20
  go_wp2
  go_loopg [7] (n0 + 1) (fun g s7 wr => ∃ i : Nat, s7 = .int .i64 i ∧ i ≤ n0 ∧ n0 + 1 - i ≤ g ∧ Hid (∀ j, j < 3 → wr.cell? ⟨w.heap.size, j, none⟩ = some (.string ⟨#[letter 4 j]⟩)) ∧ Hid (w.heap.size < wr.heap.size) ∧ Hid (Below w.heap.size w wr))
  case atStart =>
    refine ⟨0, rfl, Nat.zero_le _, Nat.le_refl _, ?_, by simp [Hid], ?_⟩
    · intro j hj
      match j, hj with
      | 0, _ | 1, _ | 2, _ => exact new_cell _ _ _ _ _ rfl
    · exact (Below.refl _ _).alloc (Nat.le_refl _) _
  case round =>
    obtain ⟨i, rfl, hi, hg, hL, hLz, hB⟩ := hrel
    obtain ⟨j, hj⟩ : ∃ j, i % 3 = j := ⟨_, rfl⟩
    obtain ⟨q, hq⟩ : ∃ q, i / 3 = q := ⟨_, rfl⟩
    have hj3 : j < 3 := by omega
    have hq9 : q < 1000000000 := by omega
    have hjz : (i : Int) % 3 = (j : Int) := by omega
    have hqz : (i : Int) / 3 = (q : Int) := by omega
    have e1 := hL.out j hj3
    have hiz : (i : Int) ≤ (zs.length : Int) := by omega
    by_cases h3 : 3 ≤ i
    · have h3z : (3 : Int) ≤ (i : Int) := by omega
      have hcb := candAt_big 4 i h3
      rw [hj, hq] at hcb
      have HCB := Lib.hid hcb
      have hdl := dec_small_len q hq9
      have HDL := Lib.hid hdl
      clear hj hq hcb hdl
      go_wp2_with fail
      refine (rDigits_any q _ hq9).mono ?_
      rintro e w2 ⟨rfl, hb2⟩
      have hadd : ∀ W : World, (Op.stringOp .add ⟨#[letter 4 j]⟩ ⟨(Lib.decDigits q).toArray⟩).run Tryz.prog W = .ok (.string ((⟨#[letter 4 j]⟩ : ByteArray) ++ ⟨(Lib.decDigits q).toArray⟩)) W := fun W => run_string_add_sum W _ _ (by
        have h1 : (⟨#[letter 4 j]⟩ : ByteArray).size = 1 := rfl
        have h2 : (⟨(Lib.decDigits q).toArray⟩ : ByteArray).size = (Lib.decDigits q).length := rfl
        have := HDL.out
        omega)
      have HB2 := Lib.hid (Below.next hB.out (Nat.le_refl _) hb2)
      have hL2 : Hid (∀ j, j < 3 → w2.cell? ⟨w.heap.size, j, none⟩ = some (.string ⟨#[letter 4 j]⟩)) := fun j hj => (hb2.cell (p := ⟨w.heap.size, j, none⟩) hLz.out).trans (hL.out j hj)
      have hLz2 : Hid (w.heap.size < w2.heap.size) := Nat.lt_of_lt_of_le hLz.out hb2.size
      clear hb2 hL hLz e1 hB
      dsimp only [strV]
      go_wp2_with fail
      by_cases hit : i = n0
      · refine (in_to false zs _ _ _ (HV.out.later HB2.out) (by omega) (by rw [HCB.out, hit]; exact HFR.out)).mono ?_
        rintro e w3 ⟨rfl, rfl⟩
        clear hadd
        have HIT := Lib.hid hit
        clear hit
        dsimp only
        go_wp2
        go_ret2
        exact ⟨_, _, HFF.out, by rw [HCC.out, ← HIT.out, ← HCB.out, strV_data]; rfl, HB2.out⟩
      · refine (in_to true zs _ _ _ (HV.out.later HB2.out) (by omega) (by rw [HCB.out]; exact HTK.out i (by omega))).mono ?_
        rintro e w3 ⟨rfl, rfl⟩
        clear hadd
        dsimp only
        go_wp2
        go_roundg (n0 + 1 - (i + 1))
        case measure => omega
        case rel => exact ⟨i + 1, by go_num, by omega, Nat.le_refl _, hL2, hLz2, HB2.out⟩
    · have h3z : ¬ (3 : Int) ≤ (i : Int) := by omega
      have hcb := candAt_low 4 i (by omega)
      rw [hj] at hcb
      have HCB := Lib.hid hcb
      clear hj hq hcb
      go_wp2_with fail
      clear e1
      by_cases hit : i = n0
      · refine (in_to false zs _ _ _ (HV.out.later hB.out) (by omega) (by rw [HCB.out, hit]; exact HFR.out)).mono ?_
        rintro e w3 ⟨rfl, rfl⟩
        have HIT := Lib.hid hit
        clear hit
        dsimp only
        go_wp2
        go_ret2
        exact ⟨_, _, HFF.out, by rw [HCC.out, ← HIT.out, ← HCB.out]; rfl, hB.out⟩
      · refine (in_to true zs _ _ _ (HV.out.later hB.out) (by omega) (by rw [HCB.out]; exact HTK.out i (by omega))).mono ?_
        rintro e w3 ⟨rfl, rfl⟩
        dsimp only
        go_wp2
        go_roundg (n0 + 1 - (i + 1))
        case measure => omega
        case rel => exact ⟨i + 1, by go_num, by omega, Nat.le_refl _, hL, hLz, hB.out⟩
end Go.Proofs.YtbbibngagdpdcaaGreatDoor
