/-
  PROVED HERE: a part of the proof of the card 'SpellTellsCardSaid': what functions of the program, or of the document's packages, that SpellTells reaches compute (texts G2, G3). CONDITIONS: each theorem's own.
-/
import Derived.Test.YtbbibngagdpdcaaGreatDoorM17
import Derived.Test.YtbbibngagdpdcaaGreatDoorM16
namespace Go.Proofs.YtbbibngagdpdcaaGreatDoor
open Go Go.RowKit
open Go.Shelf

theorem strsAt_new (w : World) (zs : List (List UInt8)) (b : Nat) (hb : b = w.heap.size) : StrsAt (w.alloc (.cells (zs.map strV).toArray 9)) (.slice (some ⟨b, 0, none⟩) zs.length zs.length) zs := by
  subst hb
  exact strsAt_alloc w zs

def lv7 : List (List UInt8) := [[42], [47], [37]]
def lv6 : List (List UInt8) := [[43], [45]]
def lv5 : List (List UInt8) := [[94], [64], [58]]
def lv4 : List (List UInt8) := [[61], [60], [62], [33]]
def lv3 : List (List UInt8) := [[38], [124]]

theorem level_doc (c : UInt8) : levelOf c.toNat = (if lv7.contains [c] then 7 else if lv6.contains [c] then 6 else if lv5.contains [c] then 5 else if lv4.contains [c] then 4 else if lv3.contains [c] then 3 else 2) ∧
    rightOf c.toNat = (if lv7.contains [c] then false else if lv6.contains [c] then false else if lv5.contains [c] then true else if lv4.contains [c] then false else if lv3.contains [c] then false else false) :=
  all_bytes (p := fun c => levelOf c.toNat = (if lv7.contains [c] then 7 else if lv6.contains [c] then 6 else if lv5.contains [c] then 5 else if lv4.contains [c] then 4 else if lv3.contains [c] then 3 else 2) ∧
    rightOf c.toNat = (if lv7.contains [c] then false else if lv6.contains [c] then false else if lv5.contains [c] then true else if lv4.contains [c] then false else if lv3.contains [c] then false else false)) (by decide +kernel) c

theorem ret_lr2 {a b : Int} {c d : Bool} (h : b = a ∧ d = c) : Ending.returned (.tuple #[.int .i64 a, .bool c]) = .returned (.tuple #[.int .i64 b, .bool d]) := by rw [h.1, h.2]

theorem below_new {B : Nat} {a w : World} (h : Below B a w) (hB : B ≤ w.heap.size) (o : Obj) : Below B a (w.alloc o) := h.alloc hB o

set_option maxHeartbeats 2000000 in
theorem rLevel_any (s : ByteArray) (w : World) (hs : s.size ≤ 140737488351232) : Calls Tryz.prog 46 #[.string s] w fun e w' => e = .returned (.tuple #[.int .i64 (levelL s.data.toList), .bool (rightL s.data.toList)]) ∧ Below w.heap.size w w' := by
  by_cases hk : kindL s.data.toList = 9
  · obtain ⟨c, t, hl, _⟩ := kind_sign_head hk
    have hpos : 1 ≤ s.size := kind_pos s (by omega)
    have hr : levelL s.data.toList = levelOf c.toNat ∧ rightL s.data.toList = rightOf c.toNat := by
      rw [levelL, rightL, if_pos hk, if_pos hk, hl]; exact ⟨rfl, rfl⟩
    rw [hr.1, hr.2]
    have HK := Lib.hid hk
    have HL := Lib.hid hl
    clear hr hk hl
    go_enter Tryz.func46, Tryz.ntmps46
    go_wp2_with fail
    refine (rKind_any s w hs).mono ?_
    rintro e w1 ⟨rfl, hb1⟩
    have HB1 := Lib.hid hb1
    clear hb1
    dsimp only
    have hl := HL.out
    have hd := level_doc c
    rw [HK.out]
    obtain ⟨x, hx⟩ : ∃ x : ByteArray, s.extract 0 1 = x := ⟨_, rfl⟩
    have hxd : x.data.toList = [c] := by rw [← hx, Lib.extract_data, hl]; rfl
    obtain ⟨b7, h7⟩ : ∃ b, lv7.contains [c] = b := ⟨_, rfl⟩
    obtain ⟨b6, h6⟩ : ∃ b, lv6.contains [c] = b := ⟨_, rfl⟩
    obtain ⟨b5, h5⟩ : ∃ b, lv5.contains [c] = b := ⟨_, rfl⟩
    obtain ⟨b4, h4⟩ : ∃ b, lv4.contains [c] = b := ⟨_, rfl⟩
    obtain ⟨b3, h3⟩ : ∃ b, lv3.contains [c] = b := ⟨_, rfl⟩
    rw [h7, h6, h5, h4, h3] at hd
    have HD := Lib.hid hd
    have H7 : Hid (lv7.contains x.data.toList = b7) := by rw [hxd]; exact h7
    have H6 : Hid (lv6.contains x.data.toList = b6) := by rw [hxd]; exact h6
    have H5 : Hid (lv5.contains x.data.toList = b5) := by rw [hxd]; exact h5
    have H4 : Hid (lv4.contains x.data.toList = b4) := by rw [hxd]; exact h4
    have H3 : Hid (lv3.contains x.data.toList = b3) := by rw [hxd]; exact h3
    clear hd h7 h6 h5 h4 h3 hl hxd
    go_wp2_with fail
    refine (in_to b7 lv7 _ x _ (strsAt_new _ lv7 _ (by simp)) (by decide) H7.out).mono ?_
    rintro e w' ⟨rfl, rfl⟩
    have a7 := Lib.hid (below_new HB1.out HB1.out.size (.cells (lv7.map strV).toArray 9))
    cases b7 with
    | true =>
      dsimp only
      go_wp2
      go_ret2
      exact ⟨ret_lr2 HD.out, a7.out⟩
    | false =>
      dsimp only
      go_wp2_with fail
      refine (in_to b6 lv6 _ x _ (strsAt_new _ lv6 _ (by simp)) (by decide) H6.out).mono ?_
      rintro e w' ⟨rfl, rfl⟩
      have a6 := Lib.hid (below_new a7.out a7.out.size (.cells (lv6.map strV).toArray 9))
      cases b6 with
      | true =>
        dsimp only
        go_wp2
        go_ret2
        exact ⟨ret_lr2 HD.out, a6.out⟩
      | false =>
        dsimp only
        go_wp2_with fail
        refine (in_to b5 lv5 _ x _ (strsAt_new _ lv5 _ (by simp)) (by decide) H5.out).mono ?_
        rintro e w' ⟨rfl, rfl⟩
        have a5 := Lib.hid (below_new a6.out a6.out.size (.cells (lv5.map strV).toArray 9))
        cases b5 with
        | true =>
          dsimp only
          go_wp2
          go_ret2
          exact ⟨ret_lr2 HD.out, a5.out⟩
        | false =>
          dsimp only
          go_wp2_with fail
          refine (in_to b4 lv4 _ x _ (strsAt_new _ lv4 _ (by simp)) (by decide) H4.out).mono ?_
          rintro e w' ⟨rfl, rfl⟩
          have a4 := Lib.hid (below_new a5.out a5.out.size (.cells (lv4.map strV).toArray 9))
          cases b4 with
          | true =>
            dsimp only
            go_wp2
            go_ret2
            exact ⟨ret_lr2 HD.out, a4.out⟩
          | false =>
            dsimp only
            go_wp2_with fail
            refine (in_to b3 lv3 _ x _ (strsAt_new _ lv3 _ (by simp)) (by decide) H3.out).mono ?_
            rintro e w' ⟨rfl, rfl⟩
            have a3 := Lib.hid (below_new a4.out a4.out.size (.cells (lv3.map strV).toArray 9))
            cases b3 with
            | true =>
              dsimp only
              go_wp2
              go_ret2
              exact ⟨ret_lr2 HD.out, a3.out⟩
            | false =>
              dsimp only
              go_wp2
              go_ret2
              exact ⟨ret_lr2 HD.out, a3.out⟩
  · have h1 : levelL s.data.toList = 0 := if_neg hk
    have h2 : rightL s.data.toList = false := if_neg hk
    rw [h1, h2]
    clear h1 h2
    go_enter Tryz.func46, Tryz.ntmps46
    go_wp2_with fail
    refine (rKind_any s w hs).mono ?_
    rintro e w1 ⟨rfl, hb1⟩
    dsimp only
    go_wp2
    go_ret2
    exact ⟨rfl, hb1⟩

theorem alike_doc (a b : List UInt8) : alikeL a b = (decide (kindL a = kindL b) && (decide (kindL a = 6) || (decide (kindL a = 7) || decide (kindL a = 9))) && decide (levelL a = levelL b) && decide (rightL a = rightL b)) := by
  have la : kindL a ≠ 9 → levelL a = 0 := fun h => if_neg h
  have lb : kindL b ≠ 9 → levelL b = 0 := fun h => if_neg h
  have ra : kindL a ≠ 9 → rightL a = false := fun h => if_neg h
  have rb : kindL b ≠ 9 → rightL b = false := fun h => if_neg h
  unfold alikeL
  revert la lb ra rb
  generalize kindL a = ka
  generalize kindL b = kb
  generalize levelL a = la
  generalize levelL b = lb
  generalize rightL a = ra
  generalize rightL b = rb
  intro h1 h2 h3 h4
  by_cases hk : ka = kb
  · subst hk
    by_cases h9 : ka = 9
    · subst h9
      cases ra <;> cases rb <;> simp [Bool.beq_eq_decide_eq]
    · rw [h1 h9, h2 h9, h3 h9, h4 h9]
      by_cases h6 : ka = 6
      · subst h6; simp
      · by_cases h7 : ka = 7
        · subst h7; simp
        · simp [h6, h7, h9]
  · simp [hk]

set_option maxHeartbeats 2000000 in
theorem rAlike_any (a b : ByteArray) (w : World) (ha : a.size ≤ 140737488351232) (hb : b.size ≤ 140737488351232) :
    Calls Tryz.prog 21 #[.string a, .string b] w fun e w' => e = .returned (.bool (alikeL a.data.toList b.data.toList)) ∧ Below w.heap.size w w' := by
  have hd := alike_doc a.data.toList b.data.toList
  obtain ⟨R, hR⟩ : ∃ R, alikeL a.data.toList b.data.toList = R := ⟨_, rfl⟩
  rw [hR] at hd ⊢
  have HDD := Lib.hid hd
  clear hd hR
  go_enter Tryz.func21, Tryz.ntmps21
  go_wp2_with fail
  refine (rKind_any a w ha).mono ?_
  rintro e w1 ⟨rfl, hb1⟩
  dsimp only
  go_wp2_with fail
  refine (rLevel_any a w1 ha).mono ?_
  rintro e w2 ⟨rfl, hb2⟩
  dsimp only
  go_wp2_with fail
  refine (rLevel_any b w2 hb).mono ?_
  rintro e w3 ⟨rfl, hb3⟩
  dsimp only
  go_wp2_with fail
  refine (rKind_any b w3 hb).mono ?_
  rintro e w4 ⟨rfl, hb4⟩
  have HB := Lib.hid (Below.next (Below.next (Below.next hb1 (Nat.le_refl _) hb2) (Nat.le_refl _) hb3) (Nat.le_refl _) hb4)
  clear hb1 hb2 hb3 hb4
  dsimp only
  have hd := HDD.out
  obtain ⟨ka, hka⟩ : ∃ R, kindL a.data.toList = R := ⟨_, rfl⟩
  obtain ⟨kb, hkb⟩ : ∃ R, kindL b.data.toList = R := ⟨_, rfl⟩
  obtain ⟨la, hla⟩ : ∃ R, levelL a.data.toList = R := ⟨_, rfl⟩
  obtain ⟨lb, hlb⟩ : ∃ R, levelL b.data.toList = R := ⟨_, rfl⟩
  obtain ⟨ra, hra⟩ : ∃ R, rightL a.data.toList = R := ⟨_, rfl⟩
  obtain ⟨rb, hrb⟩ : ∃ R, rightL b.data.toList = R := ⟨_, rfl⟩
  rw [hka, hkb, hla, hlb, hra, hrb] at hd
  rw [hka, hkb, hla, hlb, hra, hrb]
  have HD := Lib.hid hd
  clear hd HDD hka hkb hla hlb hra hrb
  go_wp2
  all_goals
    go_ret
    refine ⟨ret_bool ?_, HB.out⟩
    have hd := HD.out
    rw [hd]
    clear hd HD HB
    first | (simp_all; done) | (cases ra <;> cases rb <;> simp_all; done)
end Go.Proofs.YtbbibngagdpdcaaGreatDoor

namespace Go.Proofs.YtbbibngagdpdcaaGreatDoor
open Go Go.RowKit
open Go.Shelf

theorem drop_two (s : ByteArray) (k : Nat) (h : k + 1 < s.size) : s.data.toList.drop k = s[k] :: s[k + 1] :: s.data.toList.drop (k + 2) := by
  rw [List.drop_eq_getElem_cons (by simpa using (by omega : k < s.size)), List.drop_eq_getElem_cons (by simpa using h)]
  rfl

theorem pre_two (s : ByteArray) (k : Nat) (h : k + 1 < s.size) (a b : UInt8) : Lib.hasPrefix (s.data.toList.drop k) [a, b] = (a == s[k] && b == s[k + 1]) := by
  rw [drop_two s k h]
  simp [Lib.hasPrefix, List.isPrefixOf]

theorem pre_short (s : ByteArray) (k : Nat) (h : s.size ≤ k + 1) (a b : UInt8) : Lib.hasPrefix (s.data.toList.drop k) [a, b] = false := by
  rw [Bool.eq_false_iff]
  intro hp
  unfold Lib.hasPrefix at hp
  have := (List.isPrefixOf_iff_prefix.1 hp).length_le
  simp at this
  omega

/-- WHAT THE DOCUMENT's note GIVES: nought where there is no end. -/
def endOr (R : Int) : Int := if R < 0 then 0 else R

theorem noteGo_done (f : Nat) : ∀ (d : Int) (s : ByteArray) (k : Nat), 0 < d → s.size ≤ k + 1 → noteGo f d (s.data.toList.drop k) k = -1 := by
  induction f with
  | zero => intro d s k _ _; rfl
  | succ f ih =>
    intro d s k hd hk
    rw [noteGo]
    by_cases h0 : s.data.toList.drop k = []
    · rw [if_pos h0]
    · rw [if_neg h0, if_neg (by rw [pre_short s k hk]; decide), if_neg (by rw [pre_short s k hk]; decide), if_pos hd, List.drop_drop]
      exact ih d s (k + 1) hd (by omega)

theorem byte_test (c : UInt8) (n : UInt8) : ((c.toNat : Int) == (n.toNat : Int)) = (n == c) := by
  rw [Bool.eq_iff_iff]
  simp only [beq_iff_eq]
  constructor
  · intro h; exact (UInt8.toNat_inj.1 (by omega)).symm
  · rintro rfl; rfl

theorem noteGo_two (f : Nat) (d : Int) (s : ByteArray) (k : Nat) (h : k + 1 < s.size) : noteGo (f + 1) d (s.data.toList.drop k) k =
    (if (((s[k].toNat : Int) == 40) && ((s[k + 1].toNat : Int) == 42)) = true then (if 0 < d + 1 then noteGo f (d + 1) (s.data.toList.drop (k + 2)) (k + 2) else ((k : Int) + 2))
    else if (((s[k].toNat : Int) == 42) && ((s[k + 1].toNat : Int) == 41)) = true then (if 0 < d - 1 then noteGo f (d - 1) (s.data.toList.drop (k + 2)) (k + 2) else ((k : Int) + 2))
    else (if 0 < d then noteGo f d (s.data.toList.drop (k + 1)) (k + 1) else ((k : Int) + 1))) := by
  rw [noteGo, if_neg (by rw [drop_two s k h]; simp), pre_two s k h, pre_two s k h, List.drop_drop, List.drop_drop]
  have t1 := byte_test s[k] 40
  have t2 := byte_test s[k + 1] 42
  have t3 := byte_test s[k] 42
  have t4 := byte_test s[k + 1] 41
  have n1 : ((40 : UInt8).toNat : Int) = 40 := rfl
  have n2 : ((42 : UInt8).toNat : Int) = 42 := rfl
  have n3 : ((41 : UInt8).toNat : Int) = 41 := rfl
  rw [n1] at t1
  rw [n2] at t2 t3
  rw [n3] at t4
  rw [← t1, ← t2, ← t3, ← t4]

set_option maxHeartbeats 2000000 in
theorem rNote_to (r : Int) (s : ByteArray) (k0 : Nat) (w : World) (hs : s.size ≤ 140737488351232) (hp : Lib.hasPrefix (s.data.toList.drop k0) [40, 42] = true) (hr : endOr (noteEnd s.data.toList k0) = r) :
    Calls Tryz.prog 72 #[.string s, .int .i64 k0] w fun e w' => e = .returned (.int .i64 r) ∧ Below w.heap.size w w' := by
  have hk0 : k0 ≤ s.size := by
    by_cases h : k0 ≤ s.size
    · exact h
    · rw [pre_short s k0 (by omega)] at hp; cases hp
  have HR : Hid (endOr (noteGo (s.size + 1) 0 (s.data.toList.drop k0) k0) = r) := by
    have e : s.data.toList.length = s.size := by simp
    rw [Hid, ← hr, noteEnd, e]
  have HP := Lib.hid hp
  clear hp hr
  go_enter Tryz.func72, Tryz.ntmps72
  go_wp2
  go_loopg [5, 6] (s.size + 1) (fun g s5 s6 wr => ∃ (d k f : Nat), s5 = .int .i64 d ∧ s6 = .int .i64 k ∧ k ≤ s.size ∧ d ≤ k ∧ s.size - k < f ∧ f ≤ g ∧ wr = w ∧ Hid (0 < d ∨ Lib.hasPrefix (s.data.toList.drop k) [40, 42] = true) ∧ Hid (endOr (noteGo f d (s.data.toList.drop k) k) = r))
  case atStart => exact ⟨0, k0, s.size + 1, rfl, rfl, hk0, Nat.zero_le _, by omega, Nat.le_refl _, rfl, .inr HP.out, HR⟩
  case round =>
    obtain ⟨d, k, f, rfl, rfl, hk, hdk, hf, hfg, rfl, hd, hn⟩ := hrel
    clear HR HP
    obtain ⟨f, rfl⟩ : ∃ f', f = f' + 1 := ⟨f - 1, by omega⟩
    by_cases hlt : k + 1 < s.size
    · have hn' := hn.out
      rw [noteGo_two f d s k hlt] at hn'
      have hkz : (k : Int) + 1 < (s.size : Int) := by omega
      have hkz2 : (k : Int) < (s.size : Int) := by omega
      have p1 : s[k] = 40 → ((s[k].toNat : Int) == 40) = true := fun h => by rw [h]; rfl
      have p2 : s[k + 1] = 42 → ((s[k + 1].toNat : Int) == 42) = true := fun h => by rw [h]; rfl
      have P1 := Lib.hid p1
      have P2 := Lib.hid p2
      clear p1 p2
      cases t1 : ((s[k].toNat : Int) == 40)
      · cases t3 : ((s[k].toNat : Int) == 42)
        · rw [t1, t3] at hn'
          simp only [Bool.false_and, Bool.false_eq_true, if_false] at hn'
          have hdp : 0 < d := by
            rcases hd.out with h | h
            · exact h
            · rw [pre_two s k hlt] at h
              simp only [Bool.and_eq_true, beq_iff_eq] at h
              rw [P1.out h.1.symm] at t1; cases t1
          have hn2 : Hid (endOr (noteGo f d (s.data.toList.drop (k + 1)) (k + 1)) = r) := by
            rw [Hid, ← hn', if_pos (by omega : (0 : Int) < d)]
          clear hn' hn hd
          go_wp2
          go_roundg (gk - 1)
          case measure => omega
          case rel => exact ⟨d, k + 1, f, rfl, by go_num, by omega, by omega, by omega, by omega, rfl, .inl hdp, hn2⟩
        · cases t4 : ((s[k + 1].toNat : Int) == 41)
          · rw [t1, t3, t4] at hn'
            simp only [Bool.false_and, Bool.and_false, Bool.false_eq_true, if_false] at hn'
            have hdp : 0 < d := by
              rcases hd.out with h | h
              · exact h
              · rw [pre_two s k hlt] at h
                simp only [Bool.and_eq_true, beq_iff_eq] at h
                rw [P1.out h.1.symm] at t1; cases t1
            have hn2 : Hid (endOr (noteGo f d (s.data.toList.drop (k + 1)) (k + 1)) = r) := by
              rw [Hid, ← hn', if_pos (by omega : (0 : Int) < d)]
            clear hn' hn hd
            go_wp2
            go_roundg (gk - 1)
            case measure => omega
            case rel => exact ⟨d, k + 1, f, rfl, by go_num, by omega, by omega, by omega, by omega, rfl, .inl hdp, hn2⟩
          · rw [t1, t3, t4] at hn'
            simp only [Bool.false_and, Bool.and_self, Bool.false_eq_true, if_false, if_true] at hn'
            have hdp : 0 < d := by
              rcases hd.out with h | h
              · exact h
              · rw [pre_two s k hlt] at h
                simp only [Bool.and_eq_true, beq_iff_eq] at h
                rw [P1.out h.1.symm] at t1; cases t1
            by_cases hd1 : d = 1
            · have hn2 : Hid (r = (k : Int) + 2) := by
                rw [Hid, ← hn', if_neg (by omega), endOr, if_neg (by omega)]
              have hdz : (d : Int) - 1 = 0 := by omega
              clear hn' hn hd
              go_wp2
              go_ret
              exact ⟨ret_i64 (by have := hn2.out; omega), Below.refl _ _⟩
            · have hn2 : Hid (endOr (noteGo f ((d - 1 : Nat) : Int) (s.data.toList.drop (k + 2)) (k + 2)) = r) := by
                rw [Hid, ← hn', if_pos (by omega), show ((d - 1 : Nat) : Int) = (d : Int) - 1 by omega]
              have hdz : ((d : Int) - 1 == 0) = false := by rw [beq_eq_false_iff_ne]; omega
              have hdz2 : ¬ (d : Int) - 1 = 0 := by omega
              clear hn' hn hd
              go_wp2
              go_roundg (gk - 1)
              case measure => omega
              case rel => exact ⟨d - 1, k + 2, f, congrArg (Value.int .i64) (by omega), congrArg (Value.int .i64) (by omega), by omega, by omega, by omega, by omega, rfl, .inl (by omega), hn2⟩
      · have t3 : ((s[k].toNat : Int) == 42) = false := by
          rw [beq_eq_false_iff_ne]
          rw [beq_iff_eq] at t1
          omega
        cases t2 : ((s[k + 1].toNat : Int) == 42)
        · rw [t1, t2, t3] at hn'
          simp only [Bool.false_and, Bool.and_false, Bool.false_eq_true, if_false] at hn'
          have hdp : 0 < d := by
            rcases hd.out with h | h
            · exact h
            · rw [pre_two s k hlt] at h
              simp only [Bool.and_eq_true, beq_iff_eq] at h
              rw [P2.out h.2.symm] at t2; cases t2
          have hn2 : Hid (endOr (noteGo f d (s.data.toList.drop (k + 1)) (k + 1)) = r) := by
            rw [Hid, ← hn', if_pos (by omega : (0 : Int) < d)]
          clear hn' hn hd
          go_wp2
          go_roundg (gk - 1)
          case measure => omega
          case rel => exact ⟨d, k + 1, f, rfl, by go_num, by omega, by omega, by omega, by omega, rfl, .inl hdp, hn2⟩
        · rw [t1, t2] at hn'
          have hn2 : Hid (endOr (noteGo f ((d + 1 : Nat) : Int) (s.data.toList.drop (k + 2)) (k + 2)) = r) := by
            rw [Hid, ← hn']
            simp only [Bool.and_self, if_true]
            rw [if_pos (by omega), show ((d + 1 : Nat) : Int) = (d : Int) + 1 by omega]
          clear hn' hn hd
          go_wp2
          go_roundg (gk - 1)
          case measure => omega
          case rel => exact ⟨d + 1, k + 2, f, congrArg (Value.int .i64) (by omega), congrArg (Value.int .i64) (by omega), by omega, by omega, by omega, by omega, rfl, .inl (by omega), hn2⟩
    · have hr0 : Hid (r = 0) := by
        have hdp : 0 < d := by
          rcases hd.out with h | h
          · exact h
          · rw [pre_short s k (by omega)] at h; cases h
        have := hn.out
        rw [noteGo_done (f + 1) d s k (by omega) (by omega)] at this
        rw [Hid, ← this]
        rfl
      have hkz : ¬ (k : Int) + 1 < (s.size : Int) := by omega
      clear hn hd
      go_wp2
      go_ret
      exact ⟨ret_i64 hr0.out.symm, Below.refl _ _⟩

theorem text_nil (s : ByteArray) (k : Nat) (h : s.size ≤ k) : textGo (s.data.toList.drop k) k = -1 := by
  rw [List.drop_eq_nil_of_le (by simpa using h)]
  rfl

theorem text_at (s : ByteArray) (k : Nat) (h : k < s.size) : textGo (s.data.toList.drop k) k =
    (if ((s[k].toNat : Int) == 34) = true then (k : Int) + 1
    else if ((s[k].toNat : Int) == 10) = true then -1
    else if ((s[k].toNat : Int) == 92) = true then (if h2 : k + 1 < s.size then (if escB s[k + 1] then textGo (s.data.toList.drop (k + 2)) (k + 2) else -1) else -1)
    else textGo (s.data.toList.drop (k + 1)) (k + 1)) := by
  have e : s.data.toList.drop k = s[k] :: s.data.toList.drop (k + 1) := by
    rw [List.drop_eq_getElem_cons (by simpa using h)]
    rfl
  rw [e, textGo_cons]
  by_cases h2 : k + 1 < s.size
  · have e2 : s.data.toList.drop (k + 1) = s[k + 1] :: s.data.toList.drop (k + 2) := by
      rw [List.drop_eq_getElem_cons (by simpa using h2)]
      rfl
    rw [dif_pos h2, e2]
  · rw [dif_neg h2, List.drop_eq_nil_of_le (by simp; omega)]

theorem esc_doc (c : UInt8) : escB c = (((c.toNat : Int) == 34) || (((c.toNat : Int) == 92) || (((c.toNat : Int) == 110) || ((c.toNat : Int) == 116)))) := by
  have t1 := byte_test c 34
  have t2 := byte_test c 92
  have t3 := byte_test c 110
  have t4 := byte_test c 116
  have n1 : ((34 : UInt8).toNat : Int) = 34 := rfl
  have n2 : ((92 : UInt8).toNat : Int) = 92 := rfl
  have n3 : ((110 : UInt8).toNat : Int) = 110 := rfl
  have n4 : ((116 : UInt8).toNat : Int) = 116 := rfl
  rw [n1] at t1
  rw [n2] at t2
  rw [n3] at t3
  rw [n4] at t4
  rw [t1, t2, t3, t4, escB, Bool.eq_iff_iff]
  simp only [List.contains_iff_mem, List.mem_cons, List.not_mem_nil, or_false, Bool.or_eq_true, beq_iff_eq]
  constructor
  · rintro (h | h | h | h) <;> simp [h]
  · rintro (h | h | h | h) <;> simp [h]

set_option maxHeartbeats 2000000 in
theorem rText_to (r : Int) (s : ByteArray) (k0 : Nat) (w : World) (hs : s.size ≤ 140737488351232) (hk0 : k0 < s.size) (hr : endOr (textGo (s.data.toList.drop (k0 + 1)) (k0 + 1)) = r) :
    Calls Tryz.prog 73 #[.string s, .int .i64 k0] w fun e w' => e = .returned (.int .i64 r) ∧ Below w.heap.size w w' := by
  have HR := Lib.hid hr
  clear hr
  go_enter Tryz.func73, Tryz.ntmps73
  go_wp2
  go_loopg [5] (s.size + 1) (fun g s5 wr => ∃ k : Nat, s5 = .int .i64 k ∧ k ≤ s.size ∧ s.size - k < g ∧ wr = w ∧ Hid (endOr (textGo (s.data.toList.drop k) k) = r))
  case atStart => exact ⟨k0 + 1, by go_num, by omega, by omega, rfl, HR⟩
  case round =>
    obtain ⟨k, rfl, hk, hg, rfl, hn⟩ := hrel
    clear HR
    by_cases hlt : k < s.size
    · have hn' := hn.out
      rw [text_at s k hlt] at hn'
      have hkz : (k : Int) < (s.size : Int) := by omega
      clear hn
      cases t1 : ((s[k].toNat : Int) == 34)
      · cases t2 : ((s[k].toNat : Int) == 10)
        · cases t3 : ((s[k].toNat : Int) == 92)
          · rw [t1, t2, t3] at hn'
            simp only [Bool.false_eq_true, if_false] at hn'
            have hn2 := Lib.hid hn'
            clear hn'
            go_wp2
            go_roundg (gk - 1)
            case measure => omega
            case rel => exact ⟨k + 1, by go_num, by omega, by omega, rfl, hn2⟩
          · rw [t1, t2, t3] at hn'
            simp only [Bool.false_eq_true, if_false, if_true] at hn'
            by_cases h2 : k + 1 < s.size
            · rw [dif_pos h2, esc_doc] at hn'
              have hkz2 : (k : Int) + 1 < (s.size : Int) := by omega
              have hkz4 : ¬ (s.size : Int) ≤ (k : Int) + 1 := by omega
              cases q1 : ((s[k + 1].toNat : Int) == 34)
              · cases q2 : ((s[k + 1].toNat : Int) == 92)
                · cases q3 : ((s[k + 1].toNat : Int) == 110)
                  · cases q4 : ((s[k + 1].toNat : Int) == 116)
                    · rw [q1, q2, q3, q4] at hn'
                      have z1 : ((s[k + 1].toNat : Int) != 34) = true := by rw [bne, q1]; rfl
                      have z2 : ((s[k + 1].toNat : Int) != 92) = true := by rw [bne, q2]; rfl
                      have z3 : ((s[k + 1].toNat : Int) != 110) = true := by rw [bne, q3]; rfl
                      have z4 : ((s[k + 1].toNat : Int) != 116) = true := by rw [bne, q4]; rfl
                      have hr0 : Hid (r = 0) := by rw [Hid, ← hn']; rfl
                      clear hn' q1 q2 q3 q4
                      go_wp2
                      go_ret
                      exact ⟨ret_i64 hr0.out.symm, Below.refl _ _⟩
                    · rw [q1, q2, q3, q4] at hn'
                      simp only [Bool.or_true, if_true] at hn'
                      have hn2 := Lib.hid hn'
                      have z1 : ((s[k + 1].toNat : Int) != 34) = true := by rw [bne, q1]; rfl
                      have z2 : ((s[k + 1].toNat : Int) != 92) = true := by rw [bne, q2]; rfl
                      have z3 : ((s[k + 1].toNat : Int) != 110) = true := by rw [bne, q3]; rfl
                      have z4 : ((s[k + 1].toNat : Int) != 116) = false := by rw [bne, q4]; rfl
                      clear hn' q1 q2 q3 q4
                      go_wp2
                      go_roundg (gk - 1)
                      case measure => omega
                      case rel => exact ⟨k + 2, congrArg (Value.int .i64) (by omega), by omega, by omega, rfl, hn2⟩
                  · rw [q1, q2, q3] at hn'
                    simp only [Bool.or_true, Bool.true_or, if_true] at hn'
                    have hn2 := Lib.hid hn'
                    have z1 : ((s[k + 1].toNat : Int) != 34) = true := by rw [bne, q1]; rfl
                    have z2 : ((s[k + 1].toNat : Int) != 92) = true := by rw [bne, q2]; rfl
                    have z3 : ((s[k + 1].toNat : Int) != 110) = false := by rw [bne, q3]; rfl
                    clear hn' q1 q2 q3
                    go_wp2
                    go_roundg (gk - 1)
                    case measure => omega
                    case rel => exact ⟨k + 2, congrArg (Value.int .i64) (by omega), by omega, by omega, rfl, hn2⟩
                · rw [q1, q2] at hn'
                  simp only [Bool.or_true, Bool.true_or, if_true] at hn'
                  have hn2 := Lib.hid hn'
                  have z1 : ((s[k + 1].toNat : Int) != 34) = true := by rw [bne, q1]; rfl
                  have z2 : ((s[k + 1].toNat : Int) != 92) = false := by rw [bne, q2]; rfl
                  clear hn' q1 q2
                  go_wp2
                  go_roundg (gk - 1)
                  case measure => omega
                  case rel => exact ⟨k + 2, congrArg (Value.int .i64) (by omega), by omega, by omega, rfl, hn2⟩
              · rw [q1] at hn'
                simp only [Bool.true_or, if_true] at hn'
                have hn2 := Lib.hid hn'
                have z1 : ((s[k + 1].toNat : Int) != 34) = false := by rw [bne, q1]; rfl
                clear hn' q1
                go_wp2
                go_roundg (gk - 1)
                case measure => omega
                case rel => exact ⟨k + 2, congrArg (Value.int .i64) (by omega), by omega, by omega, rfl, hn2⟩
            · rw [dif_neg h2] at hn'
              have hr0 : Hid (r = 0) := by rw [Hid, ← hn']; rfl
              have hkz2 : (s.size : Int) ≤ (k : Int) + 1 := by omega
              have hkz3 : ¬ (k : Int) + 1 < (s.size : Int) := by omega
              clear hn'
              go_wp2
              go_ret
              exact ⟨ret_i64 hr0.out.symm, Below.refl _ _⟩
        · rw [t1, t2] at hn'
          simp only [Bool.false_eq_true, if_false, if_true] at hn'
          have hr0 : Hid (r = 0) := by rw [Hid, ← hn']; rfl
          clear hn'
          go_wp2
          go_ret
          exact ⟨ret_i64 hr0.out.symm, Below.refl _ _⟩
      · rw [t1] at hn'
        simp only [if_true] at hn'
        have hr0 : Hid (r = (k : Int) + 1) := by
          rw [Hid, ← hn', endOr, if_neg (by omega)]
        clear hn'
        go_wp2
        go_ret
        exact ⟨ret_i64 hr0.out.symm, Below.refl _ _⟩
    · have hr0 : Hid (r = 0) := by
        have := hn.out
        rw [text_nil s k (by omega)] at this
        rw [Hid, ← this]
        rfl
      have hkz : ¬ (k : Int) < (s.size : Int) := by omega
      clear hn
      go_wp2
      go_ret
      exact ⟨ret_i64 hr0.out.symm, Below.refl _ _⟩
end Go.Proofs.YtbbibngagdpdcaaGreatDoor
