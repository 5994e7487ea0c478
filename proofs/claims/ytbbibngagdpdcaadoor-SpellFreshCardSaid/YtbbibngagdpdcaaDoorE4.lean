import Derived.Test.YtbbibngagdpdcaaDoorE3
namespace Go.Proofs.YtbbibngagdpdcaaDoor
open Go Go.RowKit
open Go.Shelf

/-- THE NAMES THAT A TEXT SPELLS, each as often as it stands there. -/
def namesOf (s : ByteArray) : List (List UInt8) := (namesL s.data.toList).map fun t => sub s.data.toList t.2.1 t.2.2

/-- A MAP OF PLACES: no name twice, none without a place. -/
structure Good (F : Spell) : Prop where
  nodup : (F.map (·.1)).Nodup
  full : ∀ f ∈ F, f.2 ≠ []

theorem put_keys (F : Spell) (k : List UInt8) (p : Plc) (x : List UInt8) : x ∈ (putP F k p).map (·.1) ↔ x ∈ F.map (·.1) ∨ x = k := by
  induction F with
  | nil => simp [putP]
  | cons f r ih =>
    unfold putP
    by_cases hk : f.1 = k
    · rw [if_pos hk]
      subst hk
      simp only [List.map_cons, List.mem_cons]
      constructor
      · intro h; exact Or.inl h
      · rintro (h | rfl)
        · exact h
        · exact Or.inl rfl
    · rw [if_neg hk]
      simp only [List.map_cons, List.mem_cons]
      rw [ih]
      constructor
      · rintro (h | h | h)
        · exact .inl (.inl h)
        · exact .inl (.inr h)
        · exact .inr h
      · rintro ((h | h) | h)
        · exact .inl h
        · exact .inr (.inl h)
        · exact .inr (.inr h)

theorem Good.put {F : Spell} (h : Good F) (k : List UInt8) (p : Plc) : Good (putP F k p) := by
  induction F with
  | nil => exact ⟨by simp [putP], by simp [putP]⟩
  | cons f r ih =>
    have hr : Good r := ⟨(List.nodup_cons.1 h.nodup).2, fun g hg => h.full g (by simp [hg])⟩
    unfold putP
    by_cases hk : f.1 = k
    · rw [if_pos hk]
      refine ⟨?_, ?_⟩
      · have := h.nodup
        simp only [List.map_cons] at this ⊢
        rw [← hk]; exact this
      · intro g hg
        rcases List.mem_cons.1 hg with rfl | hg
        · simp
        · exact hr.full g hg
    · rw [if_neg hk]
      refine ⟨?_, ?_⟩
      · rw [List.map_cons, List.nodup_cons]
        refine ⟨fun hm => ?_, (ih hr).nodup⟩
        rcases (put_keys r k p f.1).1 hm with h1 | h1
        · exact (List.nodup_cons.1 h.nodup).1 h1
        · exact hk h1
      · intro g hg
        rcases List.mem_cons.1 hg with rfl | hg
        · exact h.full _ (by simp)
        · exact (ih hr).full g hg

theorem fileSpell_good {F : Spell} (h : Good F) (i : Nat) (l : List UInt8) (ts : List Tok) : Good (fileSpell F i l ts) := by
  induction ts generalizing F with
  | nil => exact h
  | cons t r ih => exact ih (h.put _ _)

theorem fileSpell_keys (F : Spell) (i : Nat) (l : List UInt8) (ts : List Tok) (x : List UInt8) : x ∈ (fileSpell F i l ts).map (·.1) ↔ x ∈ F.map (·.1) ∨ x ∈ ts.map fun t => sub l t.2.1 t.2.2 := by
  induction ts generalizing F with
  | nil => simp [fileSpell]
  | cons t r ih =>
    have h := ih (putP F (sub l t.2.1 t.2.2) (i, t.2.1))
    have e : fileSpell F i l (t :: r) = fileSpell (putP F (sub l t.2.1 t.2.2) (i, t.2.1)) i l r := rfl
    rw [e, h, put_keys, List.map_cons, List.mem_cons, or_assoc]

theorem spellFrom_good (fs : List Fil) : ∀ {F : Spell} (_ : Good F) (i : Nat), Good (spellFrom F i fs) := by
  induction fs with
  | nil => intro F h i; exact h
  | cons f r ih => intro F h i; exact ih (fileSpell_good h _ _ _) _

theorem spellFrom_keys (fs : List Fil) : ∀ (F : Spell) (i : Nat) (x : List UInt8), x ∈ (spellFrom F i fs).map (·.1) ↔ x ∈ F.map (·.1) ∨ ∃ f ∈ fs, x ∈ namesOf f.2 := by
  induction fs with
  | nil => intro F i x; simp [spellFrom]
  | cons f r ih =>
    intro F i x
    rw [spellFrom, ih, fileSpell_keys]
    constructor
    · rintro ((h | h) | ⟨g, hg, h⟩)
      · exact .inl h
      · exact .inr ⟨f, by simp, h⟩
      · exact .inr ⟨g, by simp [hg], h⟩
    · rintro (h | ⟨g, hg, h⟩)
      · exact .inl (.inl h)
      · rcases List.mem_cons.1 hg with rfl | hg
        · exact .inl (.inr h)
        · exact .inr ⟨g, hg, h⟩

theorem spell_good (fs : List Fil) : Good (spellL fs) := spellFrom_good fs (F := []) ⟨by simp, by simp⟩ 0

theorem spell_keys (fs : List Fil) (x : List UInt8) : x ∈ (spellL fs).map (·.1) ↔ ∃ f ∈ fs, x ∈ namesOf f.2 := by
  rw [spellL, spellFrom_keys]
  simp

theorem getP_full {F : Spell} (h : Good F) {k : List UInt8} (hk : k ∈ F.map (·.1)) : getP F k ≠ [] := by
  induction F with
  | nil => simp at hk
  | cons f r ih =>
    rw [getP]
    by_cases he : f.1 = k
    · rw [if_pos he]; exact h.full f (by simp)
    · rw [if_neg he]
      refine ih ⟨(List.nodup_cons.1 h.nodup).2, fun g hg => h.full g (by simp [hg])⟩ ?_
      rcases List.mem_cons.1 hk with h1 | h1
      · exact absurd h1.symm he
      · exact h1

theorem taken_mem (fs : List Fil) (x : List UInt8) : x ∈ takenL fs ↔ ∃ f ∈ fs, x ∈ namesOf f.2 := by
  rw [takenL, risingL, List.mem_mergeSort, spell_keys]

theorem taken_places (fs : List Fil) (x : List UInt8) : x ∈ takenL fs ↔ getP (spellL fs) x ≠ [] := by
  rw [takenL, risingL, List.mem_mergeSort]
  exact ⟨getP_full (spell_good fs), getP_mem _ _⟩

theorem taken_nodup (fs : List Fil) : (takenL fs).Nodup := (List.mergeSort_perm _ _).nodup_iff.2 (spell_good fs).nodup

theorem taken_sorted (fs : List Fil) : (takenL fs).Pairwise fun a b => a ≤ b := by
  have tr : ∀ a b c : List UInt8, leB a b = true → leB b c = true → leB a c = true := fun a b c h1 h2 => by simp only [leB, decide_eq_true_eq] at *; exact List.le_trans h1 h2
  have to : ∀ a b : List UInt8, (leB a b || leB b a) = true := fun a b => by simp only [leB, Bool.or_eq_true, decide_eq_true_eq]; exact List.le_total a b
  exact (List.pairwise_mergeSort tr to ((spellL fs).map (·.1))).imp (fun h => by simpa [leB] using h)

theorem taken_lt (fs : List Fil) (i : Nat) (h : i + 1 < (takenL fs).length) : (takenL fs)[i] < (takenL fs)[i + 1] := by
  have h1 := List.pairwise_iff_getElem.1 (taken_sorted fs) i (i + 1) (by omega) h (by omega)
  have h2 : (takenL fs)[i] ≠ (takenL fs)[i + 1] := fun e => by
    have := (List.getElem_inj (taken_nodup fs)).1 e
    omega
  exact Decidable.byContradiction fun h3 => h2 (List.le_antisymm h1 (List.not_lt.1 h3))

theorem taken_eq (fs gs : List Fil) (h : ∀ x, (∃ f ∈ fs, x ∈ namesOf f.2) ↔ ∃ f ∈ gs, x ∈ namesOf f.2) : takenL fs = takenL gs := by
  refine mergeSort_of_perm ((List.perm_ext_iff_of_nodup (spell_good fs).nodup (spell_good gs).nodup).2 fun x => ?_)
  rw [spell_keys, spell_keys, h]

/-- THE FILES IN THE OTHER ORDER, all called b. -/
def backL (fs : List Fil) : List Fil := (fs.map fun f => ((⟨#[98]⟩ : ByteArray), f.2)).reverse

theorem taken_back (fs : List Fil) : takenL (backL fs) = takenL fs := by
  refine taken_eq _ _ fun x => ?_
  simp only [backL, List.mem_reverse, List.mem_map]
  constructor
  · rintro ⟨g, ⟨f, hf, rfl⟩, h⟩
    exact ⟨f, hf, h⟩
  · rintro ⟨f, hf, h⟩
    exact ⟨_, ⟨f, hf, rfl⟩, h⟩

theorem back_len (fs : List Fil) : (backL fs).length = fs.length := by simp [backL]

theorem back_few {fs : List Fil} (h : Few fs) : Few (backL fs) := by
  refine ⟨by rw [back_len]; exact h.many, fun f hf => ?_⟩
  simp only [backL, List.mem_reverse, List.mem_map] at hf
  obtain ⟨g, hg, rfl⟩ := hf
  exact h.long g hg

theorem back_take (fs : List Fil) (k : Nat) (h : k < fs.length) : (backL fs).take (k + 1) = (backL fs).take k ++ [((⟨#[98]⟩ : ByteArray), (fs[fs.length - 1 - k]).2)] := by
  rw [List.take_succ_eq_append_getElem (by rw [back_len]; exact h)]
  simp [backL]
end Go.Proofs.YtbbibngagdpdcaaDoor
