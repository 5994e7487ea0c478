/-
  PROVED HERE: a part of the proof of the card 'SpellTellsCardSaid': what functions of the program, or of the document's packages, that SpellTells reaches compute (texts E2, E3, E4, E5). CONDITIONS: each theorem's own.
-/
import Derived.Test.YtbbibngagdpdcaaGreatDoorM14
namespace Go.Proofs.YtbbibngagdpdcaaGreatDoor
open Go Go.RowKit
open Go.Shelf

def exF : Fil := (⟨#[]⟩, ⟨#[118, 97, 108, 32, 120, 32, 61, 32, 121, 32, 43, 32, 49]⟩)

theorem firstFree_eq {sp : Int} {zs : List (List UInt8)} {K I K' I' : Nat} (h : FirstFree sp zs K I) (h' : FirstFree sp zs K' I') : K = K' ∧ I = I' := by
  have a1 := h.taken K' I' h'.lt
  have a2 := h'.taken K I h.lt
  rw [h'.free] at a1
  rw [h.free] at a2
  have b1 : ¬ (K' < K ∨ (K' = K ∧ I' < I)) := fun x => by simpa using a1 x
  have b2 : ¬ (K < K' ∨ (K = K' ∧ I < I')) := fun x => by simpa using a2 x
  omega

theorem firstRep_eq {F : Spell} {c : UInt8} {N N' : Nat} (h : FirstRep F c N) (h' : FirstRep F c N') : N = N' := by
  rcases Nat.lt_trichotomy N N' with hlt | he | hlt
  · exact absurd h.free (h'.taken N h.two hlt)
  · exact he
  · exact absurd h'.free (h.taken N' h'.two hlt)

theorem ex_spell : spellL [exF] = [([120], [(0, 4)]), ([121], [(0, 8)]), ([43], [(0, 10)])] := by decide +kernel

theorem ex_taken : takenL [exF] = [[43], [120], [121]] := by
  rw [takenL, risingL, ex_spell]
  have hp : ((([([120], [(0, 4)]), ([121], [(0, 8)]), ([43], [(0, 10)])] : Spell).map (·.1))).Perm [[43], [120], [121]] := by decide +kernel
  rw [mergeSort_of_perm hp]
  exact List.mergeSort_of_pairwise (by decide +kernel)

theorem ex_x {r : List UInt8} {b : Bool} (h : FreshIs [exF] [120] r b) : r = [122] ∧ b = true := by
  have hk : kindL [120] = 6 := by decide +kernel
  rcases h with ⟨_, hb, K, I, hF, hr⟩ | ⟨h7, _⟩ | ⟨h9, _⟩ | ⟨h6, _⟩
  · have h0 : FirstFree 1 (takenL [exF]) 0 2 := by
      refine ⟨by omega, by omega, by rw [ex_taken]; decide +kernel, fun k i hi h => ?_⟩
      have hk0 : k = 0 := by omega
      subst hk0
      have hi2 : i = 0 ∨ i = 1 := by omega
      rw [ex_taken]
      rcases hi2 with rfl | rfl <;> decide +kernel
    obtain ⟨rfl, rfl⟩ := firstFree_eq hF h0
    exact ⟨hr, hb⟩
  · rw [hk] at h7; omega
  · rw [hk] at h9; omega
  · exact absurd hk h6

theorem ex_plus {r : List UInt8} {b : Bool} (h : FreshIs [exF] [43] r b) : r = [43, 43] ∧ b = true := by
  have hk : kindL [43] = 9 := by decide +kernel
  rcases h with ⟨h6, _⟩ | ⟨h7, _⟩ | ⟨_, hb, c, t, N, he, hF, hr⟩ | ⟨_, _, h9, _⟩
  · rw [hk] at h6; omega
  · rw [hk] at h7; omega
  · cases he
    have h0 : FirstRep (spellL [exF]) 43 2 := by
      refine ⟨Nat.le_refl _, by omega, by rw [ex_spell]; decide +kernel, fun m h1 h2 => by omega⟩
    cases firstRep_eq hF h0
    exact ⟨hr, hb⟩
  · exact absurd hk h9

theorem filesAt_one (w : World) (f : Fil) : FilesAt (w.alloc (.cells #[.string f.1, .string f.2] 41)) (.slice (some ⟨w.heap.size, 0, none⟩) 1 1) [f] := by
  refine ⟨_, _, rfl, .inr ⟨w.heap.size, 0, rfl, by simp, fun j g hj => ?_⟩⟩
  cases j with
  | zero =>
    simp at hj
    subst hj
    exact ⟨new_cell _ _ _ _ _ rfl, new_cell _ _ _ _ _ rfl⟩
  | succ j => simp at hj

theorem few_one (f : Fil) (h : f.2.size ≤ 100000) : Few [f] := ⟨by simp, fun g hg => by simp at hg; subst hg; exact h⟩

theorem strsAt_three (w : World) (a b c : List UInt8) : StrsAt (w.alloc (.cells #[strV a, strV b, strV c] 9)) (.slice (some ⟨w.heap.size, 0, none⟩) 3 3) [a, b, c] := by
  refine ⟨_, _, rfl, .inr ⟨w.heap.size, 0, rfl, by simp, fun j hj => ?_⟩⟩
  match j, hj with
  | 0, _ | 1, _ | 2, _ => exact new_cell _ _ _ _ _ rfl

end Go.Proofs.YtbbibngagdpdcaaGreatDoor

namespace Go.Proofs.YtbbibngagdpdcaaGreatDoor
open Go Go.RowKit
open Go.Shelf

/-- THE WORLD ONE STEP ON: the example's file laid in a row of its own. -/
abbrev exRow (w : World) : World := w.alloc (.cells #[.string ⟨#[]⟩, .string ⟨#[118, 97, 108, 32, 120, 32, 61, 32, 121, 32, 43, 32, 49]⟩] 41)

theorem exRow_below (w : World) : Below w.heap.size w (exRow w) := (Below.refl _ w).alloc (Nat.le_refl _) _
theorem exRow_tab {w : World} (h : TabOk w) : TabOk (exRow w) := h.later (exRow_below w)

theorem fresh_exx (w : World) (ht : TabOk w) (b : Nat) (hb : b = w.heap.size) :
    Calls Tryz.prog 6 #[.string ⟨#[120]⟩, .slice (some ⟨b, 0, none⟩) 1 1] (exRow w) fun e w' => e = .returned (.tuple #[.string ⟨#[122]⟩, .bool true]) ∧ Below w.heap.size w w' := by
  subst hb
  refine (fresh_any [exF] _ ⟨#[120]⟩ (exRow w) (exRow_tab ht) (few_one exF (by decide)) (filesAt_one w exF) (by decide)).mono ?_
  rintro e w' ⟨r, b, hF, rfl, hb⟩
  obtain ⟨rfl, rfl⟩ := ex_x hF
  exact ⟨rfl, Below.next (exRow_below w) (Nat.le_refl _) hb⟩

theorem fresh_explus (w : World) (ht : TabOk w) (b : Nat) (hb : b = w.heap.size) :
    Calls Tryz.prog 6 #[.string ⟨#[43]⟩, .slice (some ⟨b, 0, none⟩) 1 1] (exRow w) fun e w' => e = .returned (.tuple #[.string ⟨#[43, 43]⟩, .bool true]) ∧ Below w.heap.size w w' := by
  subst hb
  refine (fresh_any [exF] _ ⟨#[43]⟩ (exRow w) (exRow_tab ht) (few_one exF (by decide)) (filesAt_one w exF) (by decide)).mono ?_
  rintro e w' ⟨r, b, hF, rfl, hb⟩
  obtain ⟨rfl, rfl⟩ := ex_plus hF
  exact ⟨rfl, Below.next (exRow_below w) (Nat.le_refl _) hb⟩

theorem taken_ex (w : World) (b : Nat) (hb : b = w.heap.size) :
    Calls Tryz.prog 12 #[.slice (some ⟨b, 0, none⟩) 1 1] (exRow w) fun e w' => ∃ v, e = .returned v ∧ StrsAt w' v [[43], [120], [121]] ∧ Below w.heap.size w w' := by
  subst hb
  refine (taken_any [exF] _ (exRow w) (few_one exF (by decide)) (filesAt_one w exF)).mono ?_
  rintro e w' ⟨v, rfl, hown, hb⟩
  rw [ex_taken] at hown
  exact ⟨v, rfl, strs_own hown rfl, Below.next (exRow_below w) (Nat.le_refl _) hb⟩

theorem exRow_cells {w w' : World} (h : Below (w.heap.size + 1) (exRow w) w') : w'.cell? ⟨w.heap.size, 0, none⟩ = some (.string ⟨#[]⟩) ∧ w'.cell? ⟨w.heap.size, 1, none⟩ = some (.string ⟨#[118, 97, 108, 32, 120, 32, 61, 32, 121, 32, 43, 32, 49]⟩) :=
  ⟨(h.cell (p := ⟨w.heap.size, 0, none⟩) (by simp)).trans (new_cell _ _ _ _ _ rfl), (h.cell (p := ⟨w.heap.size, 1, none⟩) (by simp)).trans (new_cell _ _ _ _ _ rfl)⟩

theorem exRow_size (w : World) : w.heap.size + 1 = (exRow w).heap.size := by simp

set_option maxHeartbeats 1000000 in
theorem alive_any (w : World) (ht : TabOk w) : Calls Tryz.prog 5 #[] w fun e w' => e = .returned (.bool true) ∧ Below w.heap.size w w' := by
  have HT := Lib.hid ht
  clear ht
  go_enter Tryz.func5, Tryz.ntmps5
  go_wp2_with fail
  refine (fresh_exx (exRow w) (exRow_tab HT.out) _ (exRow_size w)).mono ?_
  rintro e w1 ⟨rfl, hb1⟩
  rw [← exRow_size] at hb1
  obtain ⟨e0, e1⟩ := exRow_cells hb1
  have HB1 := Lib.hid hb1
  clear hb1
  dsimp only
  go_wp2_with fail
  refine (fresh_explus w1 ((exRow_tab HT.out).later (by rw [← exRow_size]; exact HB1.out)) _ rfl).mono ?_
  rintro e w2 ⟨rfl, hb2⟩
  have HB2 := Lib.hid (Below.next HB1.out (exRow_size w ▸ Nat.le_refl _) hb2)
  clear hb2 e0 e1
  obtain ⟨e0, e1⟩ := exRow_cells HB2.out
  clear HB1
  dsimp only
  go_wp2_with fail
  refine (taken_ex w2 _ rfl).mono ?_
  rintro e w3 ⟨v, rfl, hs, hb3⟩
  have HB3 := Lib.hid (Below.next HB2.out (exRow_size w ▸ Nat.le_refl _) hb3)
  have HS := Lib.hid hs
  clear hb3 e0 e1 HB2 hs
  dsimp only
  go_wp2_with fail
  refine (texts_any [[43], [120], [121]] [[43], [120], [121]] v _ _ (HS.out.later ((Below.refl _ _).alloc (Nat.le_refl _) _)) (strsAt_three w3 [43] [120] [121]) (by decide) (by decide)).mono ?_
  rintro e w4 ⟨rfl, hb4⟩
  have hle : w.heap.size + 1 ≤ (exRow w).heap.size := Nat.le_of_eq (exRow_size w)
  have b5 : Below (w.heap.size + 1) (exRow w) w4 := Below.next (Below.next HB3.out hle ((Below.refl _ _).alloc (Nat.le_refl _) _)) hle hb4
  have HB4 : Hid (Below w.heap.size w w4) := Below.next (exRow_below w) (Nat.le_refl _) (by rw [← exRow_size]; exact b5)
  clear b5 hle
  clear hb4 HB3 HS
  dsimp only
  go_wp2
  go_ret
  exact ⟨rfl, HB4.out⟩
end Go.Proofs.YtbbibngagdpdcaaGreatDoor

namespace Go.Proofs.YtbbibngagdpdcaaGreatDoor
open Go Go.RowKit
open Go.Shelf

/-- THE NAMES THAT A TEXT SPELLS, each as often as it stands there. -/
def namesOf (s : ByteArray) : List (List UInt8) := (namesL s.data.toList).map fun t => sub s.data.toList t.2.1 t.2.2

/-- A MAP OF PLACES: no name twice, none without a place. -/
structure Good (F : Spell) : Prop where
  nodup : (F.map (·.1)).Nodup
  full : ∀ f ∈ F, f.2 ≠ []

theorem put_keys (F : Spell) (k : List UInt8) (p : Plc) (x : List UInt8) : x ∈ (putP F k p).map (·.1) ↔ x ∈ F.map (·.1) ∨ x = k := by
  induction F with
  | nil => simp [putP]
  | cons f r ih =>
    unfold putP
    by_cases hk : f.1 = k
    · rw [if_pos hk]
      subst hk
      simp only [List.map_cons, List.mem_cons]
      constructor
      · intro h; exact Or.inl h
      · rintro (h | rfl)
        · exact h
        · exact Or.inl rfl
    · rw [if_neg hk]
      simp only [List.map_cons, List.mem_cons]
      rw [ih]
      constructor
      · rintro (h | h | h)
        · exact .inl (.inl h)
        · exact .inl (.inr h)
        · exact .inr h
      · rintro ((h | h) | h)
        · exact .inl h
        · exact .inr (.inl h)
        · exact .inr (.inr h)

theorem Good.put {F : Spell} (h : Good F) (k : List UInt8) (p : Plc) : Good (putP F k p) := by
  induction F with
  | nil => exact ⟨by simp [putP], by simp [putP]⟩
  | cons f r ih =>
    have hr : Good r := ⟨(List.nodup_cons.1 h.nodup).2, fun g hg => h.full g (by simp [hg])⟩
    unfold putP
    by_cases hk : f.1 = k
    · rw [if_pos hk]
      refine ⟨?_, ?_⟩
      · have := h.nodup
        simp only [List.map_cons] at this ⊢
        rw [← hk]; exact this
      · intro g hg
        rcases List.mem_cons.1 hg with rfl | hg
        · simp
        · exact hr.full g hg
    · rw [if_neg hk]
      refine ⟨?_, ?_⟩
      · rw [List.map_cons, List.nodup_cons]
        refine ⟨fun hm => ?_, (ih hr).nodup⟩
        rcases (put_keys r k p f.1).1 hm with h1 | h1
        · exact (List.nodup_cons.1 h.nodup).1 h1
        · exact hk h1
      · intro g hg
        rcases List.mem_cons.1 hg with rfl | hg
        · exact h.full _ (by simp)
        · exact (ih hr).full g hg

theorem fileSpell_good {F : Spell} (h : Good F) (i : Nat) (l : List UInt8) (ts : List Tok) : Good (fileSpell F i l ts) := by
  induction ts generalizing F with
  | nil => exact h
  | cons t r ih => exact ih (h.put _ _)

theorem fileSpell_keys (F : Spell) (i : Nat) (l : List UInt8) (ts : List Tok) (x : List UInt8) : x ∈ (fileSpell F i l ts).map (·.1) ↔ x ∈ F.map (·.1) ∨ x ∈ ts.map fun t => sub l t.2.1 t.2.2 := by
  induction ts generalizing F with
  | nil => simp [fileSpell]
  | cons t r ih =>
    have h := ih (putP F (sub l t.2.1 t.2.2) (i, t.2.1))
    have e : fileSpell F i l (t :: r) = fileSpell (putP F (sub l t.2.1 t.2.2) (i, t.2.1)) i l r := rfl
    rw [e, h, put_keys, List.map_cons, List.mem_cons, or_assoc]

theorem spellFrom_good (fs : List Fil) : ∀ {F : Spell} (_ : Good F) (i : Nat), Good (spellFrom F i fs) := by
  induction fs with
  | nil => intro F h i; exact h
  | cons f r ih => intro F h i; exact ih (fileSpell_good h _ _ _) _

theorem spellFrom_keys (fs : List Fil) : ∀ (F : Spell) (i : Nat) (x : List UInt8), x ∈ (spellFrom F i fs).map (·.1) ↔ x ∈ F.map (·.1) ∨ ∃ f ∈ fs, x ∈ namesOf f.2 := by
  induction fs with
  | nil => intro F i x; simp [spellFrom]
  | cons f r ih =>
    intro F i x
    rw [spellFrom, ih, fileSpell_keys]
    constructor
    · rintro ((h | h) | ⟨g, hg, h⟩)
      · exact .inl h
      · exact .inr ⟨f, by simp, h⟩
      · exact .inr ⟨g, by simp [hg], h⟩
    · rintro (h | ⟨g, hg, h⟩)
      · exact .inl (.inl h)
      · rcases List.mem_cons.1 hg with rfl | hg
        · exact .inl (.inr h)
        · exact .inr ⟨g, hg, h⟩

theorem spell_good (fs : List Fil) : Good (spellL fs) := spellFrom_good fs (F := []) ⟨by simp, by simp⟩ 0

theorem spell_keys (fs : List Fil) (x : List UInt8) : x ∈ (spellL fs).map (·.1) ↔ ∃ f ∈ fs, x ∈ namesOf f.2 := by
  rw [spellL, spellFrom_keys]
  simp

theorem getP_full {F : Spell} (h : Good F) {k : List UInt8} (hk : k ∈ F.map (·.1)) : getP F k ≠ [] := by
  induction F with
  | nil => simp at hk
  | cons f r ih =>
    rw [getP]
    by_cases he : f.1 = k
    · rw [if_pos he]; exact h.full f (by simp)
    · rw [if_neg he]
      refine ih ⟨(List.nodup_cons.1 h.nodup).2, fun g hg => h.full g (by simp [hg])⟩ ?_
      rcases List.mem_cons.1 hk with h1 | h1
      · exact absurd h1.symm he
      · exact h1

theorem taken_mem (fs : List Fil) (x : List UInt8) : x ∈ takenL fs ↔ ∃ f ∈ fs, x ∈ namesOf f.2 := by
  rw [takenL, risingL, List.mem_mergeSort, spell_keys]

theorem taken_places (fs : List Fil) (x : List UInt8) : x ∈ takenL fs ↔ getP (spellL fs) x ≠ [] := by
  rw [takenL, risingL, List.mem_mergeSort]
  exact ⟨getP_full (spell_good fs), getP_mem _ _⟩

theorem taken_nodup (fs : List Fil) : (takenL fs).Nodup := (List.mergeSort_perm _ _).nodup_iff.2 (spell_good fs).nodup

theorem taken_sorted (fs : List Fil) : (takenL fs).Pairwise fun a b => a ≤ b := by
  have tr : ∀ a b c : List UInt8, leB a b = true → leB b c = true → leB a c = true := fun a b c h1 h2 => by simp only [leB, decide_eq_true_eq] at *; exact List.le_trans h1 h2
  have to : ∀ a b : List UInt8, (leB a b || leB b a) = true := fun a b => by simp only [leB, Bool.or_eq_true, decide_eq_true_eq]; exact List.le_total a b
  exact (List.pairwise_mergeSort tr to ((spellL fs).map (·.1))).imp (fun h => by simpa [leB] using h)

theorem taken_lt (fs : List Fil) (i : Nat) (h : i + 1 < (takenL fs).length) : (takenL fs)[i] < (takenL fs)[i + 1] := by
  have h1 := List.pairwise_iff_getElem.1 (taken_sorted fs) i (i + 1) (by omega) h (by omega)
  have h2 : (takenL fs)[i] ≠ (takenL fs)[i + 1] := fun e => by
    have := (List.getElem_inj (taken_nodup fs)).1 e
    omega
  exact Decidable.byContradiction fun h3 => h2 (List.le_antisymm h1 (List.not_lt.1 h3))

theorem taken_eq (fs gs : List Fil) (h : ∀ x, (∃ f ∈ fs, x ∈ namesOf f.2) ↔ ∃ f ∈ gs, x ∈ namesOf f.2) : takenL fs = takenL gs := by
  refine mergeSort_of_perm ((List.perm_ext_iff_of_nodup (spell_good fs).nodup (spell_good gs).nodup).2 fun x => ?_)
  rw [spell_keys, spell_keys, h]

/-- THE FILES IN THE OTHER ORDER, all called b. -/
def backL (fs : List Fil) : List Fil := (fs.map fun f => ((⟨#[98]⟩ : ByteArray), f.2)).reverse

theorem taken_back (fs : List Fil) : takenL (backL fs) = takenL fs := by
  refine taken_eq _ _ fun x => ?_
  simp only [backL, List.mem_reverse, List.mem_map]
  constructor
  · rintro ⟨g, ⟨f, hf, rfl⟩, h⟩
    exact ⟨f, hf, h⟩
  · rintro ⟨f, hf, h⟩
    exact ⟨_, ⟨f, hf, rfl⟩, h⟩

theorem back_len (fs : List Fil) : (backL fs).length = fs.length := by simp [backL]

theorem back_few {fs : List Fil} (h : Few fs) : Few (backL fs) := by
  refine ⟨by rw [back_len]; exact h.many, fun f hf => ?_⟩
  simp only [backL, List.mem_reverse, List.mem_map] at hf
  obtain ⟨g, hg, rfl⟩ := hf
  exact h.long g hg

theorem back_take (fs : List Fil) (k : Nat) (h : k < fs.length) : (backL fs).take (k + 1) = (backL fs).take k ++ [((⟨#[98]⟩ : ByteArray), (fs[fs.length - 1 - k]).2)] := by
  rw [List.take_succ_eq_append_getElem (by rw [back_len]; exact h)]
  simp [backL]
end Go.Proofs.YtbbibngagdpdcaaGreatDoor

namespace Go.Proofs.YtbbibngagdpdcaaGreatDoor
open Go Go.RowKit
open Go.Shelf
open Go.ChangeMaps Go.MapKept

theorem sub_len (l : List UInt8) (a b : Nat) : (sub l a b).length ≤ l.length := by
  rw [sub, List.length_take, List.length_drop]; omega

theorem taken_small {fs : List Fil} (h : Few fs) {x : List UInt8} (hx : x ∈ takenL fs) : x.length ≤ 100000 := by
  obtain ⟨f, hf, hn⟩ := (taken_mem fs x).1 hx
  obtain ⟨t, _, rfl⟩ := List.mem_map.1 hn
  have h1 := sub_len f.2.data.toList t.2.1 t.2.2
  have h2 := h.long f hf
  have h3 : f.2.data.toList.length = f.2.size := by simp
  omega

theorem places_taken (fs : List Fil) (v : Value) (l : List UInt8) (w : World) (hf : Few fs) (hv : FilesAt w v fs) (hl : l ∈ takenL fs) :
    Calls Tryz.prog 8 #[.string ⟨l.toArray⟩, v] w fun e w' => ∃ n a c, 0 < n ∧ e = .returned (.slice a n c) ∧ Below w.heap.size w w' := by
  have hsm := taken_small hf hl
  have hsz : (⟨l.toArray⟩ : ByteArray).size = l.length := rfl
  refine (places_any fs v ⟨l.toArray⟩ w hf hv (by omega)).mono ?_
  rintro e w' ⟨v', rfl, hown, hb⟩
  have hne := (taken_places fs l).1 hl
  obtain ⟨a, c, rfl⟩ := own_slice hown
  exact ⟨_, a, c, List.length_pos_iff.2 hne, rfl, hb⟩

theorem free_taken (fs : List Fil) (v : Value) (l : List UInt8) (w : World) (hf : Few fs) (hv : FilesAt w v fs) (hl : l ∈ takenL fs) :
    Calls Tryz.prog 14 #[.string ⟨l.toArray⟩, v] w fun e w' => e = .returned (.bool false) ∧ Below w.heap.size w w' := by
  have hsm := taken_small hf hl
  have hsz : (⟨l.toArray⟩ : ByteArray).size = l.length := rfl
  refine (free_any fs v ⟨l.toArray⟩ w hf hv (by omega)).mono ?_
  rintro e w' ⟨rfl, hb⟩
  refine ⟨ret_bool ?_, hb⟩
  have hne := (taken_places fs l).1 hl
  show (alikeL l l && (getP (spellL fs) l).isEmpty) = false
  rw [Bool.and_eq_false_iff]
  right
  simpa using hne

def fileCells (f : Fil) : List Value := [.string f.1, .string f.2]

theorem file_flat_get (ts : List Fil) (i : Nat) (h : i < ts.length) (j : Nat) (hj : j < 2) : (ts.flatMap fileCells)[i * 2 + j]? = (fileCells ts[i])[j]? := by
  induction ts generalizing i with
  | nil => simp at h
  | cons t r ih =>
    cases i with
    | zero =>
      rw [List.flatMap_cons, List.getElem?_append_left (by simp [fileCells]; omega)]
      simp
    | succ i =>
      rw [List.flatMap_cons, List.getElem?_append_right (by simp [fileCells]; omega)]
      simp only [List.getElem_cons_succ]
      rw [← ih i (by simpa using h), show (i + 1) * 2 + j - (fileCells t).length = i * 2 + j by simp [fileCells]; omega]

theorem file_flat_len (ts : List Fil) : (ts.flatMap fileCells).length = ts.length * 2 := by
  induction ts with
  | nil => rfl
  | cons t r ih => rw [List.flatMap_cons, List.length_append, ih]; simp [fileCells]; omega

theorem files_own {w : World} {base : Nat} {v : Value} {n : Nat} {fs : List Fil} (h : w.ownsRow base 41 2 v n (fs.flatMap fileCells)) (hn : n = fs.length) : FilesAt w v fs := by
  subst hn
  rcases h.2 with ⟨rfl, h0⟩ | ⟨g, cap, cur, rfl, hb, hg, _⟩
  · exact ⟨_, _, by rw [h0], .inl (List.eq_nil_of_length_eq_zero h0)⟩
  · refine ⟨_, _, rfl, .inr ⟨g, 0, rfl, (Array.getElem?_eq_some_iff.1 hg).1, fun j f hj => ?_⟩⟩
    obtain ⟨hlt, rfl⟩ := List.getElem?_eq_some_iff.1 hj
    have hl := file_flat_len fs
    rw [Nat.zero_add]
    refine ⟨?_, ?_⟩
    · rw [h.cellAt (j * 2) (by omega)]; exact file_flat_get fs j hlt 0 (by omega)
    · rw [h.cellAt (j * 2 + 1) (by omega)]; exact file_flat_get fs j hlt 1 (by omega)

theorem Tryz.infoFil : (Tryz.prog.info? 41).map (fun i => (i.zero, i.size, i.bytes)) = some (some (.agg #[.string ⟨#[]⟩, .string ⟨#[]⟩]), 2, 32) := by kernel_rfl
end Go.Proofs.YtbbibngagdpdcaaGreatDoor
