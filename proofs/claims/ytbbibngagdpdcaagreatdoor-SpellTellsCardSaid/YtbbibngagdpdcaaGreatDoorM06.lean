/-
  PROVED HERE: a part of the proof of the card 'SpellTellsCardSaid': what functions of the program, or of the document's packages, that SpellTells reaches compute (texts B0, B1, B2). CONDITIONS: each theorem's own.
-/
import Derived.Test.YtbbibngagdpdcaaGreatDoorM05
import Derived.ScopeJumps
namespace Go.Proofs.YtbbibngagdpdcaaGreatDoor
open Go Go.RowKit
open Go.Shelf

theorem conv_one (w : World) (c : Int) :
    (convert 69 9 (.slice (some ⟨w.heap.size, 0, none⟩) 1 1)).run Tryz.prog (w.alloc (.cells #[.int .u8 c] 5)) = .ok (.string ⟨#[UInt8.ofNat c.toNat]⟩) (w.alloc (.cells #[.int .u8 c] 5)) := by
  rw [run_convert_bytes_string _ _ _ 5 _ _ _ Tryz.underlying69 Tryz.underlying5 Tryz.underlying9]
  have h := run_loadCells_list (P := Tryz.prog) (w.alloc (.cells #[.int .u8 c] 5)) ⟨w.heap.size, 0, none⟩ [.int .u8 c] (fun j v hv => by
    match j, hv with
    | 0, hv =>
      simp at hv
      subst hv
      rw [show ((⟨w.heap.size, 0, none⟩ : Addr).add 0) = ⟨w.heap.size, 0, none⟩ from rfl, new_cell _ _ _ _ _ rfl]
      rfl)
  rw [run_bytesToString _ ⟨w.heap.size, 0, none⟩ 1 1 [c] h]
  rfl

set_option maxHeartbeats 400000 in
theorem lrest_walk (c : Int) (w : World) : Calls Tryz.prog 99 #[.int .u8 c] w fun e w' => e = .returned (.bool (kindL [97, UInt8.ofNat c.toNat] != 0)) ∧ Below w.heap.size w w' := by
  have hcv := conv_one w c
  have hadd : ∀ W : World, (Op.stringOp .add ⟨#[97]⟩ ⟨#[UInt8.ofNat c.toNat]⟩).run Tryz.prog W = .ok (.string ⟨#[97, UInt8.ofNat c.toNat]⟩) W := fun W => run_string_add_sum W ⟨#[97]⟩ ⟨#[UInt8.ofNat c.toNat]⟩ (show 1 + 1 ≤ 9223372036854775807 by omega)
  go_enter Tryz.func99, Tryz.ntmps99
  go_wp2_with (go_at_call 15; refine (kind_any ⟨#[97, UInt8.ofNat c.toNat]⟩ _ (show 2 ≤ 140737488351232 by omega)).mono ?_; rintro e w' ⟨rfl, hb⟩)
  go_ret
  exact ⟨rfl, Below.next ((Below.refl _ w).alloc (Nat.le_refl _) _) (Nat.le_refl _) hb⟩

set_option maxHeartbeats 400000 in
theorem lsign_walk (c : Int) (w : World) : Calls Tryz.prog 100 #[.int .u8 c] w fun e w' => e = .returned (.bool (kindL [43, UInt8.ofNat c.toNat] == 9)) ∧ Below w.heap.size w w' := by
  have hcv := conv_one w c
  have hadd : ∀ W : World, (Op.stringOp .add ⟨#[43]⟩ ⟨#[UInt8.ofNat c.toNat]⟩).run Tryz.prog W = .ok (.string ⟨#[43, UInt8.ofNat c.toNat]⟩) W := fun W => run_string_add_sum W ⟨#[43]⟩ ⟨#[UInt8.ofNat c.toNat]⟩ (show 1 + 1 ≤ 9223372036854775807 by omega)
  go_enter Tryz.func100, Tryz.ntmps100
  go_wp2_with (go_at_call 15; refine (kind_any ⟨#[43, UInt8.ofNat c.toNat]⟩ _ (show 2 ≤ 140737488351232 by omega)).mono ?_; rintro e w' ⟨rfl, hb⟩)
  go_ret
  exact ⟨rfl, Below.next ((Below.refl _ w).alloc (Nat.le_refl _) _) (Nat.le_refl _) hb⟩

theorem rest_bytes : ∀ n : Fin 256, (kindL [97, UInt8.ofNat n.val] != 0) = restB n.val := by decide +kernel
theorem sign_bytes : ∀ n : Fin 256, (kindL [43, UInt8.ofNat n.val] == 9) = signB n.val := by decide +kernel

theorem rest_byte (c : Int) (h0 : 0 ≤ c) (h1 : c ≤ 255) : (kindL [97, UInt8.ofNat c.toNat] != 0) = restB c := by
  have := rest_bytes ⟨c.toNat, by omega⟩
  rw [this]
  exact congrArg restB (Int.toNat_of_nonneg h0)
theorem sign_byte (c : Int) (h0 : 0 ≤ c) (h1 : c ≤ 255) : (kindL [43, UInt8.ofNat c.toNat] == 9) = signB c := by
  have := sign_bytes ⟨c.toNat, by omega⟩
  rw [this]
  exact congrArg signB (Int.toNat_of_nonneg h0)
end Go.Proofs.YtbbibngagdpdcaaGreatDoor

namespace Go.Proofs.YtbbibngagdpdcaaGreatDoor
open Go Go.RowKit
open Go.Shelf

/-- .. that may make memory of its own. -/
def ByteFnB (F : Nat) (p : Int → Bool) : Prop := ∀ (c : Int) (w : World), 0 ≤ c → c ≤ 255 → Calls Tryz.prog F #[.int .u8 c] w fun e w' => e = .returned (.bool (p c)) ∧ Below w.heap.size w w'

theorem byteB_blank : ByteFnB 92 blankB := fun c w _ _ => (blank_any c w).mono fun _ _ ⟨he, hw⟩ => ⟨he, hw ▸ Below.refl _ _⟩
theorem byteB_digit : ByteFnB 98 digitB := fun c w _ _ => (digit_any c w).mono fun _ _ ⟨he, hw⟩ => ⟨he, hw ▸ Below.refl _ _⟩
theorem byteB_line : ByteFnB 114 (fun c => !decide (c = 10)) := fun c w _ _ => (line1_any c w).mono fun _ _ ⟨he, hw⟩ => ⟨he, hw ▸ Below.refl _ _⟩
theorem byteB_rest : ByteFnB 99 restB := fun c w h0 h1 => (lrest_walk c w).mono fun _ _ ⟨he, hw⟩ => ⟨by rw [he, rest_byte c h0 h1], hw⟩
theorem byteB_sign : ByteFnB 100 signB := fun c w h0 h1 => (lsign_walk c w).mono fun _ _ ⟨he, hw⟩ => ⟨by rw [he, sign_byte c h0 h1], hw⟩
theorem enters_blank : ∀ args w, (callFunc 92 args).run Tryz.prog w = .ok (.enter 92 args) w := enters_of Tryz.func92 (by kernel_rfl) rfl
theorem enters_digit : ∀ args w, (callFunc 98 args).run Tryz.prog w = .ok (.enter 98 args) w := enters_of Tryz.func98 (by kernel_rfl) rfl
theorem enters_line : ∀ args w, (callFunc 114 args).run Tryz.prog w = .ok (.enter 114 args) w := enters_of Tryz.func114 (by kernel_rfl) rfl
theorem enters_lrest : ∀ args w, (callFunc 99 args).run Tryz.prog w = .ok (.enter 99 args) w := enters_of Tryz.func99 (by kernel_rfl) rfl
theorem enters_lsign : ∀ args w, (callFunc 100 args).run Tryz.prog w = .ok (.enter 100 args) w := enters_of Tryz.func100 (by kernel_rfl) rfl

/-- HOW MANY BYTES FROM THE BEGINNING ON p HOLDS OF. -/
def runL (p : Int → Bool) : List UInt8 → Nat
  | [] => 0
  | b :: r => if p b.toNat then runL p r + 1 else 0

/-- A CURSOR IN MEMORY: a text, and a place. -/
structure Cur (w : World) (b : Nat) (s : ByteArray) (at_ : Nat) : Prop where
  lt : b < w.heap.size
  text : w.cell? ⟨b, 0, none⟩ = some (.string s)
  place : w.cell? ⟨b, 1, none⟩ = some (.int .i64 at_)

theorem Cur.later {w w' : World} {b : Nat} {s : ByteArray} {a : Nat} (h : Cur w b s a) (hb : Below w.heap.size w w') : Cur w' b s a :=
  ⟨Nat.lt_of_lt_of_le h.lt hb.size, (hb.cell (p := ⟨b, 0, none⟩) h.lt).trans h.text, (hb.cell (p := ⟨b, 1, none⟩) h.lt).trans h.place⟩

theorem drop_cons (s : ByteArray) (k : Nat) (h : k < s.size) : s.data.toList.drop k = s[k] :: s.data.toList.drop (k + 1) :=
  List.drop_eq_getElem_cons (by simpa using h)

set_option maxHeartbeats 1000000 in
theorem run_any (F : Nat) (p : Int → Bool) (eg : ∀ args w, (callFunc F args).run Tryz.prog w = .ok (.enter F args) w) (hF : ByteFnB F p) (b : Nat) (s : ByteArray) (a0 at_ : Nat) (w : World) (hc : Cur w b s at_) (ha : a0 ≤ s.size) (hs : s.size ≤ 140737488351232) :
    Calls Tryz.prog 93 #[.pointer (some ⟨b, 0, none⟩), .int .i64 a0, .func (.func F) #[] #[]] w fun e w' => e = .returned (.int .i64 ((a0 + runL p (s.data.toList.drop a0) : Nat) : Int)) ∧ Below w.heap.size w w' := by
  obtain ⟨R, hR⟩ : ∃ R, a0 + runL p (s.data.toList.drop a0) = R := ⟨_, rfl⟩
  have HR := Lib.hid hR
  have HC := Lib.hid hc
  rw [hR]
  clear hR hc
  go_enter Tryz.func93, Tryz.ntmps93
  go_wp2
  go_loopg [1] s.size (fun g s1 wr => ∃ k : Nat, s1 = .int .i64 k ∧ k ≤ s.size ∧ s.size - k ≤ g ∧ Hid (k + runL p (s.data.toList.drop k) = R) ∧ Hid (Below w.heap.size w wr))
  case atStart => exact ⟨a0, rfl, ha, by omega, HR.out, Below.refl _ _⟩
  case round =>
    obtain ⟨k, rfl, hk, hg, hkR, hB⟩ := hrel
    clear HR
    have hcur := HC.out.later hB.out
    have c0 := hcur.text
    clear hcur
    by_cases hlt : k < s.size
    · have hu : (s[k].toNat : Int) ≤ 255 := by have := s[k].toNat_lt; omega
      cases hp : p (s[k].toNat) with
      | true =>
        have HP : Hid (∀ w, Calls Tryz.prog F #[.int .u8 (s[k].toNat : Int)] w fun e w' => e = .returned (.bool true) ∧ Below w.heap.size w w') := fun w => by have := hF _ w (Int.natCast_nonneg s[k].toNat) hu; rw [hp] at this; exact this
        have HN : Hid (k + 1 + runL p (s.data.toList.drop (k + 1)) = R) := by
          show _ = R
          rw [← hkR.out, drop_cons s k hlt, runL, if_pos hp]
          omega
        clear hp hkR
        go_wp2_with fail
        refine (HP.out _).mono ?_
        rintro e w1 ⟨rfl, hb1⟩
        have hB1 := Lib.hid (Below.next hB.out (Nat.le_refl _) hb1)
        clear hb1 hB c0
        dsimp only
        go_wp2
        go_roundg (s.size - (k + 1))
        case measure => omega
        case rel => exact ⟨k + 1, by go_num, by omega, Nat.le_refl _, HN, hB1⟩
      | false =>
        have HP : Hid (∀ w, Calls Tryz.prog F #[.int .u8 (s[k].toNat : Int)] w fun e w' => e = .returned (.bool false) ∧ Below w.heap.size w w') := fun w => by have := hF _ w (Int.natCast_nonneg s[k].toNat) hu; rw [hp] at this; exact this
        have HN : Hid (k = R) := by
          show k = R
          rw [← hkR.out, drop_cons s k hlt, runL, if_neg (by rw [hp]; decide)]
          omega
        clear hp hkR
        go_wp2_with fail
        refine (HP.out _).mono ?_
        rintro e w1 ⟨rfl, hb1⟩
        have hB1 := Lib.hid (Below.next hB.out (Nat.le_refl _) hb1)
        clear hb1 hB c0
        dsimp only
        go_wp2
        go_ret
        exact ⟨ret_i64 (congrArg (fun n : Nat => (n : Int)) HN.out), hB1.out⟩
    · have HN : Hid (k = R) := by
        show k = R
        rw [← hkR.out, List.drop_eq_nil_of_le (by simp; omega)]
        simp [runL]
      go_wp2
      go_ret
      exact ⟨ret_i64 (congrArg (fun n : Nat => (n : Int)) HN.out), hB.out⟩
end Go.Proofs.YtbbibngagdpdcaaGreatDoor

namespace Go.Proofs.YtbbibngagdpdcaaGreatDoor
open Go Go.RowKit
open Go.Shelf

theorem prefix_to (r : Bool) (x p : ByteArray) (w : World) (hx : Lib.hasPrefix x.data.toList p.data.toList = r) :
    Calls Tryz.prog 94 #[.string x, .string p] w fun e w' => e = .returned (.bool r) ∧ w = w' :=
  (Tryz.strings_HasPrefix x p w).mono fun _ _ ⟨he, hw⟩ => ⟨by rw [he, hx], hw.symm⟩

/-- WHERE A NOTE ENDS (-1: nowhere): d: how deep; l: the bytes from place k on. -/
def noteGo : Nat → Int → List UInt8 → Nat → Int
  | 0, _, _, _ => -1
  | f + 1, d, l, k =>
    if l = [] then -1
    else if Lib.hasPrefix l [40, 42] = true then (if 0 < d + 1 then noteGo f (d + 1) (l.drop 2) (k + 2) else ((k : Int) + 2))
    else if Lib.hasPrefix l [42, 41] = true then (if 0 < d - 1 then noteGo f (d - 1) (l.drop 2) (k + 2) else ((k : Int) + 2))
    else (if 0 < d then noteGo f d (l.drop 1) (k + 1) else ((k : Int) + 1))

def noteEnd (l : List UInt8) (k : Nat) : Int := noteGo (l.length + 1) 0 (l.drop k) k

theorem wp_scope_jumps3 {P : Program} {a : Act} {w : World} {Q : Exit → Act → World → Prop} {c rest : Code} (l : Nat) (J : Act → World → Prop) (m : Act → World → Nat) (hf : findLabel c l = some (Code.seq Code.skip rest))
    (pass : ∀ a w, J a w → rest.wp P (Exit.jump l (fun a' w' => J a' w' ∧ m a' w' < m a w) Q) a w)
    (first : (∀ a w, J a w → rest.wp P (Exit.jump l J Q) a w) → c.wp P (Exit.jump l J Q) a w) : (Code.scope c).wp P Q a w := by
  refine wp_scope_jumps l J m hf (first fun a w h => wp_mono (pass a w h) ?_) (fun a w h => ?_)
  · intro e a' w' hq
    cases e <;> simp_all [Exit.jump]
  · apply wp_seq_k
    intro K hK
    apply wp_skip
    exact hK _ _ (pass a w h)

theorem hasPrefix_two {l : List UInt8} {a b : UInt8} (h : Lib.hasPrefix l [a, b] = true) : 2 ≤ l.length := by
  match l, h with
  | _ :: _ :: _, _ => simp
  | [x], h => simp [Lib.hasPrefix, List.isPrefixOf] at h

def noteJ (b : Nat) (s : ByteArray) (R : Int) (w : World) (a' : Act) (w' : World) : Prop :=
  w' = w ∧ ∃ (k f : Nat) (d x : Int) (u5 u6 u7 u8 u9 u10 u11 u12 u13 u14 u15 u16 u17 u18 u19 u20 u21 u22 u23 u24 u25 u26 u27 u28 u29 u30 u31 u32 u33 u34 u35 u36 u37 u38 u39 u40 u41 : Value), a' = { tmps := #[.pointer (some ⟨b, 0, none⟩), undef, .int .i64 0, .int .i64 d, .int .i64 x, u5, u6, u7, u8, u9, u10, u11, u12, u13, u14, u15, u16, u17, u18, u19, u20, u21, u22, u23, u24, u25, u26, u27, u28, u29, u30, u31, u32, u33, u34, u35, u36, u37, u38, u39, u40, u41], defers := [] } ∧ x = (k : Int) ∧ k ≤ s.size ∧ s.size - k < f ∧ -1 ≤ d ∧ d ≤ k ∧ Hid (noteGo f d (s.data.toList.drop k) k = R)

def noteM (s : ByteArray) (a' : Act) (_ : World) : Nat := s.size + 1 - (intOf (a'.tmps.getD 4 undef)).toNat

set_option maxHeartbeats 4000000 in
set_option maxRecDepth 1000000 in
theorem note_any (b : Nat) (s : ByteArray) (at_ : Nat) (w : World) (hc : Cur w b s at_) (ha : at_ ≤ s.size) (hs : s.size ≤ 140737488351232) :
    Calls Tryz.prog 95 #[.pointer (some ⟨b, 0, none⟩)] w fun e w' => e = .returned (.int .i64 (noteEnd s.data.toList at_)) ∧ w = w' := by
  have c0 := hc.text
  have c1 := hc.place
  clear hc
  obtain ⟨R, hR⟩ : ∃ R, noteEnd s.data.toList at_ = R := ⟨_, rfl⟩
  have HR := Lib.hid hR
  rw [hR]
  clear hR
  go_enter Tryz.func95, Tryz.ntmps95
  go_wp2
  refine wp_scope_jumps3 0 (noteJ b s R w) (noteM s) rfl ?_ ?_
  · rintro a' w' ⟨rfl, k, f, d, x, u5, u6, u7, u8, u9, u10, u11, u12, u13, u14, u15, u16, u17, u18, u19, u20, u21, u22, u23, u24, u25, u26, u27, u28, u29, u30, u31, u32, u33, u34, u35, u36, u37, u38, u39, u40, u41, rfl, rfl, hk, hsf, hd0, hd1, hJ⟩
    clear HR c1
    obtain ⟨f', rfl⟩ : ∃ f', f = f' + 1 := ⟨f - 1, by omega⟩
    have hj := hJ.out
    clear hJ
    by_cases hlt : k < s.size
    · have hx : Hid (Lib.hasPrefix (s.extract k s.size).data.toList [40, 42] = Lib.hasPrefix (s.data.toList.drop k) [40, 42]) := by show _ = _; rw [Lib.extract_to_end]
      have hx' : Hid (Lib.hasPrefix (s.extract k s.size).data.toList [42, 41] = Lib.hasPrefix (s.data.toList.drop k) [42, 41]) := by show _ = _; rw [Lib.extract_to_end]
      rw [noteGo, if_neg (by rw [drop_cons s k hlt]; simp)] at hj
      cases h1 : Lib.hasPrefix (s.data.toList.drop k) [40, 42] with
      | true =>
        have h2l := hasPrefix_two h1
        rw [List.length_drop, Array.length_toList] at h2l
        have h2l' : k + 2 ≤ s.size := by have : s.data.size = s.size := rfl; omega
        rw [h1, if_pos rfl, List.drop_drop] at hj
        have H1 := Lib.hid h1
        clear h1 h2l
        by_cases hpos : 0 < d + 1
        · rw [if_pos hpos] at hj
          have HN := Lib.hid hj
          clear hj
          go_wp2_with (first | (go_at_call 94; (with_reducible refine (prefix_to true _ ⟨#[40, 42]⟩ _ (hx.out.trans H1.out)).mono ?_); rintro e w' ⟨rfl, rfl⟩) | (go_at_call 94; (with_reducible refine (prefix_to true _ ⟨#[42, 41]⟩ _ (hx'.out.trans H2.out)).mono ?_); rintro e w' ⟨rfl, rfl⟩))
          go_step3
          exact ⟨rfl, ⟨rfl, k + 2, f', d + 1, _, _, _, _, _, _, _, _, _, _, _, _, _, _, _, _, _, _, _, _, _, _, _, _, _, _, _, _, _, _, _, _, _, _, _, _, _, _, rfl, by omega, by omega, by omega, by omega, by omega, HN⟩, by show (_ : Nat) < _; simp [noteM, intOf]; omega⟩
        · rw [if_neg hpos] at hj
          have HN := Lib.hid hj
          clear hj
          go_wp2_with (first | (go_at_call 94; (with_reducible refine (prefix_to true _ ⟨#[40, 42]⟩ _ (hx.out.trans H1.out)).mono ?_); rintro e w' ⟨rfl, rfl⟩) | (go_at_call 94; (with_reducible refine (prefix_to true _ ⟨#[42, 41]⟩ _ (hx'.out.trans H2.out)).mono ?_); rintro e w' ⟨rfl, rfl⟩))
          simp only [Exit.jump]
          go_ret
          exact ⟨ret_i64 HN.out, rfl⟩
      | false =>
        rw [h1, if_neg (by decide)] at hj
        have H1 := Lib.hid h1
        clear h1
        cases h2 : Lib.hasPrefix (s.data.toList.drop k) [42, 41] with
        | true =>
          have h2l := hasPrefix_two h2
          rw [List.length_drop, Array.length_toList] at h2l
          have h2l' : k + 2 ≤ s.size := by have : s.data.size = s.size := rfl; omega
          rw [h2, if_pos rfl, List.drop_drop] at hj
          have H2 := Lib.hid h2
          clear h2 h2l
          by_cases hpos : 0 < d - 1
          · rw [if_pos hpos] at hj
            have HN := Lib.hid hj
            clear hj
            go_wp2_with (first | (go_at_call 94; (with_reducible refine (prefix_to false _ ⟨#[40, 42]⟩ _ (hx.out.trans H1.out)).mono ?_); rintro e w' ⟨rfl, rfl⟩) | (go_at_call 94; (with_reducible refine (prefix_to true _ ⟨#[42, 41]⟩ _ (hx'.out.trans H2.out)).mono ?_); rintro e w' ⟨rfl, rfl⟩))
            go_step3
            exact ⟨rfl, ⟨rfl, k + 2, f', d - 1, _, _, _, _, _, _, _, _, _, _, _, _, _, _, _, _, _, _, _, _, _, _, _, _, _, _, _, _, _, _, _, _, _, _, _, _, _, _, rfl, by omega, by omega, by omega, by omega, by omega, HN⟩, by show (_ : Nat) < _; simp [noteM, intOf]; omega⟩
          · rw [if_neg hpos] at hj
            have HN := Lib.hid hj
            clear hj
            go_wp2_with (first | (go_at_call 94; (with_reducible refine (prefix_to false _ ⟨#[40, 42]⟩ _ (hx.out.trans H1.out)).mono ?_); rintro e w' ⟨rfl, rfl⟩) | (go_at_call 94; (with_reducible refine (prefix_to true _ ⟨#[42, 41]⟩ _ (hx'.out.trans H2.out)).mono ?_); rintro e w' ⟨rfl, rfl⟩))
            simp only [Exit.jump]
            go_ret
            exact ⟨ret_i64 HN.out, rfl⟩
        | false =>
          rw [h2, if_neg (by decide), List.drop_drop] at hj
          have H2 := Lib.hid h2
          clear h2
          by_cases hpos : 0 < d
          · rw [if_pos hpos] at hj
            have HN := Lib.hid hj
            clear hj
            go_wp2_with (first | (go_at_call 94; (with_reducible refine (prefix_to false _ ⟨#[40, 42]⟩ _ (hx.out.trans H1.out)).mono ?_); rintro e w' ⟨rfl, rfl⟩) | (go_at_call 94; (with_reducible refine (prefix_to false _ ⟨#[42, 41]⟩ _ (hx'.out.trans H2.out)).mono ?_); rintro e w' ⟨rfl, rfl⟩))
            go_step3
            exact ⟨rfl, ⟨rfl, k + 1, f', d, _, _, _, _, _, _, _, _, _, _, _, _, _, _, _, _, _, _, _, _, _, _, _, _, _, _, _, _, _, _, _, _, _, _, _, _, _, _, rfl, by omega, by omega, by omega, by omega, by omega, HN⟩, by show (_ : Nat) < _; simp [noteM, intOf]; omega⟩
          · rw [if_neg hpos] at hj
            have HN := Lib.hid hj
            clear hj
            go_wp2_with (first | (go_at_call 94; (with_reducible refine (prefix_to false _ ⟨#[40, 42]⟩ _ (hx.out.trans H1.out)).mono ?_); rintro e w' ⟨rfl, rfl⟩) | (go_at_call 94; (with_reducible refine (prefix_to false _ ⟨#[42, 41]⟩ _ (hx'.out.trans H2.out)).mono ?_); rintro e w' ⟨rfl, rfl⟩))
            simp only [Exit.jump]
            go_ret
            exact ⟨ret_i64 HN.out, rfl⟩
    · rw [noteGo, if_pos (List.drop_eq_nil_of_le (by simp; omega))] at hj
      have HN := Lib.hid hj
      clear hj
      go_wp2
      simp only [Exit.jump]
      go_ret
      exact ⟨ret_i64 HN.out, rfl⟩
  · intro hp
    go_wp2
    go_step3
    go_step
    go_step
    exact hp _ _ ⟨rfl, at_, s.size + 1, 0, (at_ : Int), _, _, _, _, _, _, _, _, _, _, _, _, _, _, _, _, _, _, _, _, _, _, _, _, _, _, _, _, _, _, _, _, _, _, _, _, _, rfl, rfl, ha, by omega, by omega, by omega, HR.out⟩
end Go.Proofs.YtbbibngagdpdcaaGreatDoor
