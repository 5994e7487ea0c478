import Derived.Test.YtbbibngagdpdcaaDoorB1
import Derived.ScopeJumps
namespace Go.Proofs.YtbbibngagdpdcaaDoor
open Go Go.RowKit
open Go.Shelf

theorem prefix_to (r : Bool) (x p : ByteArray) (w : World) (hx : Lib.hasPrefix x.data.toList p.data.toList = r) :
    Calls Tryd.prog 73 #[.string x, .string p] w fun e w' => e = .returned (.bool r) ∧ w = w' :=
  (Tryd.strings_HasPrefix x p w).mono fun _ _ ⟨he, hw⟩ => ⟨by rw [he, hx], hw.symm⟩

/-- WHERE A NOTE ENDS (-1: nowhere): d: how deep; l: the bytes from place k on. -/
def noteGo : Nat → Int → List UInt8 → Nat → Int
  | 0, _, _, _ => -1
  | f + 1, d, l, k =>
    if l = [] then -1
    else if Lib.hasPrefix l [40, 42] = true then (if 0 < d + 1 then noteGo f (d + 1) (l.drop 2) (k + 2) else ((k : Int) + 2))
    else if Lib.hasPrefix l [42, 41] = true then (if 0 < d - 1 then noteGo f (d - 1) (l.drop 2) (k + 2) else ((k : Int) + 2))
    else (if 0 < d then noteGo f d (l.drop 1) (k + 1) else ((k : Int) + 1))

def noteEnd (l : List UInt8) (k : Nat) : Int := noteGo (l.length + 1) 0 (l.drop k) k

theorem wp_scope_jumps3 {P : Program} {a : Act} {w : World} {Q : Exit → Act → World → Prop} {c rest : Code} (l : Nat) (J : Act → World → Prop) (m : Act → World → Nat) (hf : findLabel c l = some (Code.seq Code.skip rest))
    (pass : ∀ a w, J a w → rest.wp P (Exit.jump l (fun a' w' => J a' w' ∧ m a' w' < m a w) Q) a w)
    (first : (∀ a w, J a w → rest.wp P (Exit.jump l J Q) a w) → c.wp P (Exit.jump l J Q) a w) : (Code.scope c).wp P Q a w := by
  refine wp_scope_jumps l J m hf (first fun a w h => wp_mono (pass a w h) ?_) (fun a w h => ?_)
  · intro e a' w' hq
    cases e <;> simp_all [Exit.jump]
  · apply wp_seq_k
    intro K hK
    apply wp_skip
    exact hK _ _ (pass a w h)

theorem hasPrefix_two {l : List UInt8} {a b : UInt8} (h : Lib.hasPrefix l [a, b] = true) : 2 ≤ l.length := by
  match l, h with
  | _ :: _ :: _, _ => simp
  | [x], h => simp [Lib.hasPrefix, List.isPrefixOf] at h

def noteJ (b : Nat) (s : ByteArray) (R : Int) (w : World) (a' : Act) (w' : World) : Prop :=
  w' = w ∧ ∃ (k f : Nat) (d x : Int) (u5 u6 u7 u8 u9 u10 u11 u12 u13 u14 u15 u16 u17 u18 u19 u20 u21 u22 u23 u24 u25 u26 u27 u28 u29 u30 u31 u32 u33 u34 u35 u36 u37 u38 u39 u40 u41 : Value), a' = { tmps := #[.pointer (some ⟨b, 0, none⟩), undef, .int .i64 0, .int .i64 d, .int .i64 x, u5, u6, u7, u8, u9, u10, u11, u12, u13, u14, u15, u16, u17, u18, u19, u20, u21, u22, u23, u24, u25, u26, u27, u28, u29, u30, u31, u32, u33, u34, u35, u36, u37, u38, u39, u40, u41], defers := [] } ∧ x = (k : Int) ∧ k ≤ s.size ∧ s.size - k < f ∧ -1 ≤ d ∧ d ≤ k ∧ Hid (noteGo f d (s.data.toList.drop k) k = R)

def noteM (s : ByteArray) (a' : Act) (_ : World) : Nat := s.size + 1 - (intOf (a'.tmps.getD 4 undef)).toNat

set_option maxHeartbeats 4000000 in
set_option maxRecDepth 1000000 in
theorem note_any (b : Nat) (s : ByteArray) (at_ : Nat) (w : World) (hc : Cur w b s at_) (ha : at_ ≤ s.size) (hs : s.size ≤ 140737488351232) :
    Calls Tryd.prog 74 #[.pointer (some ⟨b, 0, none⟩)] w fun e w' => e = .returned (.int .i64 (noteEnd s.data.toList at_)) ∧ w = w' := by
  have c0 := hc.text
  have c1 := hc.place
  clear hc
  obtain ⟨R, hR⟩ : ∃ R, noteEnd s.data.toList at_ = R := ⟨_, rfl⟩
  have HR := Lib.hid hR
  rw [hR]
  clear hR
  go_enter Tryd.func74, Tryd.ntmps74
  go_wp2
  refine wp_scope_jumps3 0 (noteJ b s R w) (noteM s) rfl ?_ ?_
  · rintro a' w' ⟨rfl, k, f, d, x, u5, u6, u7, u8, u9, u10, u11, u12, u13, u14, u15, u16, u17, u18, u19, u20, u21, u22, u23, u24, u25, u26, u27, u28, u29, u30, u31, u32, u33, u34, u35, u36, u37, u38, u39, u40, u41, rfl, rfl, hk, hsf, hd0, hd1, hJ⟩
    clear HR c1
    obtain ⟨f', rfl⟩ : ∃ f', f = f' + 1 := ⟨f - 1, by omega⟩
    have hj := hJ.out
    clear hJ
    by_cases hlt : k < s.size
    · have hx : Hid (Lib.hasPrefix (s.extract k s.size).data.toList [40, 42] = Lib.hasPrefix (s.data.toList.drop k) [40, 42]) := by show _ = _; rw [Lib.extract_to_end]
      have hx' : Hid (Lib.hasPrefix (s.extract k s.size).data.toList [42, 41] = Lib.hasPrefix (s.data.toList.drop k) [42, 41]) := by show _ = _; rw [Lib.extract_to_end]
      rw [noteGo, if_neg (by rw [drop_cons s k hlt]; simp)] at hj
      cases h1 : Lib.hasPrefix (s.data.toList.drop k) [40, 42] with
      | true =>
        have h2l := hasPrefix_two h1
        rw [List.length_drop, Array.length_toList] at h2l
        have h2l' : k + 2 ≤ s.size := by have : s.data.size = s.size := rfl; omega
        rw [h1, if_pos rfl, List.drop_drop] at hj
        have H1 := Lib.hid h1
        clear h1 h2l
        by_cases hpos : 0 < d + 1
        · rw [if_pos hpos] at hj
          have HN := Lib.hid hj
          clear hj
          go_wp2_with (first | (go_at_call 73; (with_reducible refine (prefix_to true _ ⟨#[40, 42]⟩ _ (hx.out.trans H1.out)).mono ?_); rintro e w' ⟨rfl, rfl⟩) | (go_at_call 73; (with_reducible refine (prefix_to true _ ⟨#[42, 41]⟩ _ (hx'.out.trans H2.out)).mono ?_); rintro e w' ⟨rfl, rfl⟩))
          go_step3
          exact ⟨rfl, ⟨rfl, k + 2, f', d + 1, _, _, _, _, _, _, _, _, _, _, _, _, _, _, _, _, _, _, _, _, _, _, _, _, _, _, _, _, _, _, _, _, _, _, _, _, _, _, rfl, by omega, by omega, by omega, by omega, by omega, HN⟩, by show (_ : Nat) < _; simp [noteM, intOf]; omega⟩
        · rw [if_neg hpos] at hj
          have HN := Lib.hid hj
          clear hj
          go_wp2_with (first | (go_at_call 73; (with_reducible refine (prefix_to true _ ⟨#[40, 42]⟩ _ (hx.out.trans H1.out)).mono ?_); rintro e w' ⟨rfl, rfl⟩) | (go_at_call 73; (with_reducible refine (prefix_to true _ ⟨#[42, 41]⟩ _ (hx'.out.trans H2.out)).mono ?_); rintro e w' ⟨rfl, rfl⟩))
          simp only [Exit.jump]
          go_ret
          exact ⟨ret_i64 HN.out, rfl⟩
      | false =>
        rw [h1, if_neg (by decide)] at hj
        have H1 := Lib.hid h1
        clear h1
        cases h2 : Lib.hasPrefix (s.data.toList.drop k) [42, 41] with
        | true =>
          have h2l := hasPrefix_two h2
          rw [List.length_drop, Array.length_toList] at h2l
          have h2l' : k + 2 ≤ s.size := by have : s.data.size = s.size := rfl; omega
          rw [h2, if_pos rfl, List.drop_drop] at hj
          have H2 := Lib.hid h2
          clear h2 h2l
          by_cases hpos : 0 < d - 1
          · rw [if_pos hpos] at hj
            have HN := Lib.hid hj
            clear hj
            go_wp2_with (first | (go_at_call 73; (with_reducible refine (prefix_to false _ ⟨#[40, 42]⟩ _ (hx.out.trans H1.out)).mono ?_); rintro e w' ⟨rfl, rfl⟩) | (go_at_call 73; (with_reducible refine (prefix_to true _ ⟨#[42, 41]⟩ _ (hx'.out.trans H2.out)).mono ?_); rintro e w' ⟨rfl, rfl⟩))
            go_step3
            exact ⟨rfl, ⟨rfl, k + 2, f', d - 1, _, _, _, _, _, _, _, _, _, _, _, _, _, _, _, _, _, _, _, _, _, _, _, _, _, _, _, _, _, _, _, _, _, _, _, _, _, _, rfl, by omega, by omega, by omega, by omega, by omega, HN⟩, by show (_ : Nat) < _; simp [noteM, intOf]; omega⟩
          · rw [if_neg hpos] at hj
            have HN := Lib.hid hj
            clear hj
            go_wp2_with (first | (go_at_call 73; (with_reducible refine (prefix_to false _ ⟨#[40, 42]⟩ _ (hx.out.trans H1.out)).mono ?_); rintro e w' ⟨rfl, rfl⟩) | (go_at_call 73; (with_reducible refine (prefix_to true _ ⟨#[42, 41]⟩ _ (hx'.out.trans H2.out)).mono ?_); rintro e w' ⟨rfl, rfl⟩))
            simp only [Exit.jump]
            go_ret
            exact ⟨ret_i64 HN.out, rfl⟩
        | false =>
          rw [h2, if_neg (by decide), List.drop_drop] at hj
          have H2 := Lib.hid h2
          clear h2
          by_cases hpos : 0 < d
          · rw [if_pos hpos] at hj
            have HN := Lib.hid hj
            clear hj
            go_wp2_with (first | (go_at_call 73; (with_reducible refine (prefix_to false _ ⟨#[40, 42]⟩ _ (hx.out.trans H1.out)).mono ?_); rintro e w' ⟨rfl, rfl⟩) | (go_at_call 73; (with_reducible refine (prefix_to false _ ⟨#[42, 41]⟩ _ (hx'.out.trans H2.out)).mono ?_); rintro e w' ⟨rfl, rfl⟩))
            go_step3
            exact ⟨rfl, ⟨rfl, k + 1, f', d, _, _, _, _, _, _, _, _, _, _, _, _, _, _, _, _, _, _, _, _, _, _, _, _, _, _, _, _, _, _, _, _, _, _, _, _, _, _, rfl, by omega, by omega, by omega, by omega, by omega, HN⟩, by show (_ : Nat) < _; simp [noteM, intOf]; omega⟩
          · rw [if_neg hpos] at hj
            have HN := Lib.hid hj
            clear hj
            go_wp2_with (first | (go_at_call 73; (with_reducible refine (prefix_to false _ ⟨#[40, 42]⟩ _ (hx.out.trans H1.out)).mono ?_); rintro e w' ⟨rfl, rfl⟩) | (go_at_call 73; (with_reducible refine (prefix_to false _ ⟨#[42, 41]⟩ _ (hx'.out.trans H2.out)).mono ?_); rintro e w' ⟨rfl, rfl⟩))
            simp only [Exit.jump]
            go_ret
            exact ⟨ret_i64 HN.out, rfl⟩
    · rw [noteGo, if_pos (List.drop_eq_nil_of_le (by simp; omega))] at hj
      have HN := Lib.hid hj
      clear hj
      go_wp2
      simp only [Exit.jump]
      go_ret
      exact ⟨ret_i64 HN.out, rfl⟩
  · intro hp
    go_wp2
    go_step3
    go_step
    go_step
    exact hp _ _ ⟨rfl, at_, s.size + 1, 0, (at_ : Int), _, _, _, _, _, _, _, _, _, _, _, _, _, _, _, _, _, _, _, _, _, _, _, _, _, _, _, _, _, _, _, _, _, _, _, _, _, rfl, rfl, ha, by omega, by omega, by omega, HR.out⟩
end Go.Proofs.YtbbibngagdpdcaaDoor
