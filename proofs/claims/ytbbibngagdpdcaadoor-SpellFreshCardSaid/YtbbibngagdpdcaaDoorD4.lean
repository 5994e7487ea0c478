import Derived.Test.YtbbibngagdpdcaaDoorD3
namespace Go.Proofs.YtbbibngagdpdcaaDoor
open Go Go.RowKit
open Go.Shelf
open Go.ChangeMaps Go.MapKept

theorem fileSpell_len (F : Spell) (i : Nat) (l : List UInt8) (ts : List Tok) : (fileSpell F i l ts).length ≤ F.length + ts.length := by
  induction ts generalizing F with
  | nil => simp [fileSpell]
  | cons t r ih =>
    have h1 := ih (putP F (sub l t.2.1 t.2.2) (i, t.2.1))
    have h2 := putP_len F (sub l t.2.1 t.2.2) (i, t.2.1)
    show (fileSpell (putP F (sub l t.2.1 t.2.2) (i, t.2.1)) i l r).length ≤ _
    simp only [List.length_cons]
    omega

theorem spellFrom_len (fs : List Fil) (hl : ∀ f ∈ fs, f.2.size ≤ 100000) : ∀ (F : Spell) (i : Nat), (spellFrom F i fs).length ≤ F.length + 100001 * fs.length := by
  induction fs with
  | nil => intro F i; simp [spellFrom]
  | cons f r ih =>
    intro F i
    have h1 := ih (fun x hx => hl x (by simp [hx])) (fileSpell F i f.2.data.toList (namesL f.2.data.toList)) (i + 1)
    have h2 := fileSpell_len F i f.2.data.toList (namesL f.2.data.toList)
    have h3 := names_len f.2.data.toList
    have h4 := hl f (by simp)
    have h5 : f.2.data.toList.length = f.2.size := by simp
    rw [spellFrom]
    simp only [List.length_cons]
    omega

theorem spell_len (fs : List Fil) (h : Few fs) : (spellL fs).length ≤ 10000100 := by
  have h1 := spellFrom_len fs h.long [] 0
  have h2 := h.many
  have h3 : (spellFrom [] 0 fs).length = (spellL fs).length := rfl
  have h4 : ([] : Spell).length = 0 := rfl
  omega

/-- WHAT spell.Taken GIVES. -/
def takenL (fs : List Fil) : List (List UInt8) := risingL (spellL fs)

theorem taken_len (fs : List Fil) : (takenL fs).length = (spellL fs).length := by simp [takenL, risingL]

theorem strs_own {w : World} {base n : Nat} {v : Value} {zs : List (List UInt8)} (h : w.ownsRow base 9 1 v n (zs.map strV)) (hn : n = zs.length) : StrsAt w v zs := by
  subst hn
  rcases h.2 with ⟨rfl, h0⟩ | ⟨g, cap, cur, rfl, hb, hg, _⟩
  · exact ⟨_, _, by rw [h0], .inl (List.eq_nil_of_length_eq_zero h0)⟩
  · refine ⟨_, _, rfl, .inr ⟨g, 0, rfl, (Array.getElem?_eq_some_iff.1 hg).1, fun j hj => ?_⟩⟩
    have := h.cellAt j (by simpa using hj)
    rw [Nat.zero_add, this]
    simp [List.getD, List.getElem?_eq_getElem hj]

set_option maxHeartbeats 1000000 in
theorem taken_any (fs : List Fil) (v : Value) (w : World) (hf : Few fs) (hv : FilesAt w v fs) :
    Calls Tryd.prog 9 #[v] w fun e w' => ∃ v', e = .returned v' ∧ w'.ownsRow w.heap.size 9 1 v' (takenL fs).length ((takenL fs).map strV) ∧ Below w.heap.size w w' := by
  obtain ⟨a, c, rfl, hv'⟩ := id hv
  clear hv'
  have HV := Lib.hid hv
  have HF := Lib.hid hf
  clear hv hf
  go_enter Tryd.func9, Tryd.ntmps9
  go_wp2_with fail
  refine (spelled_any fs _ _ HF.out HV.out).mono ?_
  rintro e w1 ⟨rfl, hS, hb1⟩
  have hr := rising_any (spellL fs) w.heap.size w1 (by have := spell_len fs HF.out; omega) hS
  rw [← taken_len] at hr
  have HR := Lib.hid hr
  have HB := Lib.hid hb1
  clear hS hb1 hr
  dsimp only
  go_wp2_with fail
  refine HR.out.mono ?_
  rintro e w2 ⟨v', rfl, hown, hb2⟩
  go_wp2
  go_ret
  exact ⟨v', rfl, ownsRow_base hown HB.out.size, Below.next HB.out (Nat.le_refl _) hb2⟩

set_option maxHeartbeats 1000000 in
theorem places_any (fs : List Fil) (v : Value) (s : ByteArray) (w : World) (hf : Few fs) (hv : FilesAt w v fs) (hs : s.size ≤ 140737488351232) :
    Calls Tryd.prog 12 #[.string s, v] w fun e w' => ∃ v', e = .returned v' ∧ w'.ownsRow (w.heap.size + 1) 56 2 v' (getP (spellL fs) s.data.toList).length ((getP (spellL fs) s.data.toList).flatMap placeCells) ∧ Below w.heap.size w w' := by
  obtain ⟨a, c, rfl, hv'⟩ := id hv
  clear hv'
  have HV := Lib.hid hv
  have HF := Lib.hid hf
  clear hv hf
  go_enter Tryd.func12, Tryd.ntmps12
  go_wp2_with fail
  refine (spelled_any fs _ _ HF.out HV.out).mono ?_
  rintro e w1 ⟨rfl, hS, hb1⟩
  obtain ⟨v0, hlook, own0, _⟩ := hS.look s.data.toList (by unfold maxLen; simp; omega) (by have := spell_len fs HF.out; unfold maxLen; omega)
  rw [strV_data] at hlook
  have HB := Lib.hid hb1
  have HO := Lib.hid own0
  clear hS hb1 own0
  dsimp only
  go_wp2
  go_ret
  exact ⟨v0, rfl, HO.out, HB.out⟩

/-- A ROW's LENGTH, AS ITS SLICE SAYS IT. -/
theorem own_slice {w : World} {base n : Nat} {e : TypeId} {size : Nat} {v : Value} {xs : List Value} (h : w.ownsRow base e size v n xs) : ∃ a c, v = .slice a n c := by
  rcases h.2 with ⟨rfl, h0⟩ | ⟨g, cap, cur, rfl, _⟩
  · exact ⟨_, _, by rw [h0]⟩
  · exact ⟨_, _, rfl⟩

/-- WHAT spell.Free GIVES. -/
def freeL (fs : List Fil) (s : List UInt8) : Bool := alikeL s s && (getP (spellL fs) s).isEmpty

set_option maxHeartbeats 1000000 in
theorem free_any (fs : List Fil) (v : Value) (s : ByteArray) (w : World) (hf : Few fs) (hv : FilesAt w v fs) (hs : s.size ≤ 140737488351232) :
    Calls Tryd.prog 10 #[.string s, v] w fun e w' => e = .returned (.bool (freeL fs s.data.toList)) ∧ Below w.heap.size w w' := by
  obtain ⟨a, c, rfl, hv'⟩ := id hv
  clear hv'
  have HV := Lib.hid hv
  have HF := Lib.hid hf
  clear hv hf
  go_enter Tryd.func10, Tryd.ntmps10
  cases hal : alikeL s.data.toList s.data.toList with
  | false =>
    have HA := Lib.hid hal
    clear hal
    go_wp2_with fail
    refine (alike_any s s _ hs hs).mono ?_
    rintro e w1 ⟨rfl, hb1⟩
    rw [HA.out]
    dsimp only
    go_wp2
    go_ret
    exact ⟨ret_bool (by rw [freeL, HA.out, Bool.false_and]), hb1⟩
  | true =>
    have HA := Lib.hid hal
    clear hal
    go_wp2_with fail
    refine (alike_any s s _ hs hs).mono ?_
    rintro e w1 ⟨rfl, hb1⟩
    rw [HA.out]
    dsimp only
    have HV1 := Lib.hid (HV.out.later hb1)
    have HB1 := Lib.hid hb1
    clear hb1
    go_wp2_with fail
    refine (spelled_any fs _ _ HF.out HV1.out).mono ?_
    rintro e w2 ⟨rfl, hS, hb2⟩
    obtain ⟨v0, hlook, own0, _⟩ := hS.look s.data.toList (by unfold maxLen; simp; omega) (by have := spell_len fs HF.out; unfold maxLen; omega)
    rw [strV_data] at hlook
    obtain ⟨a0, c0, rfl⟩ := own_slice own0
    have HB := Lib.hid (Below.next HB1.out (Nat.le_refl _) hb2)
    obtain ⟨n, hn⟩ : ∃ n, (getP (spellL fs) s.data.toList).length = n := ⟨_, rfl⟩
    rw [hn] at hlook
    have HN := Lib.hid hn
    clear hS hb2 own0 hn
    dsimp only
    go_wp2
    all_goals
      go_ret
      refine ⟨ret_bool ?_, HB.out⟩
      have hn := HN.out
      rw [freeL, HA.out, Bool.true_and]
      cases hg : getP (spellL fs) s.data.toList with
      | nil => simp_all
      | cons p r => simp_all; try omega

theorem clone_any (s : ByteArray) (w : World) (hs : s.size ≤ 281474976710656) : Calls Tryd.prog 17 #[.string s] w fun e w' => e = .returned (.string s) ∧ Below w.heap.size w w' := by
  go_enter Tryd.func17, Tryd.ntmps17
  go_wp2_with (go_at_call 32; refine (Tryd.stringslite_Clone s _ hs).mono ?_; rintro e w1 ⟨rfl, hb1⟩)
  go_ret
  exact ⟨rfl, hb1⟩
end Go.Proofs.YtbbibngagdpdcaaDoor
