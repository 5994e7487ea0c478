import Derived.Test.YtbbibngagdpdcaaDoorE4
namespace Go.Proofs.YtbbibngagdpdcaaDoor
open Go Go.RowKit
open Go.Shelf
open Go.ChangeMaps Go.MapKept

theorem sub_len (l : List UInt8) (a b : Nat) : (sub l a b).length ≤ l.length := by
  rw [sub, List.length_take, List.length_drop]; omega

theorem taken_small {fs : List Fil} (h : Few fs) {x : List UInt8} (hx : x ∈ takenL fs) : x.length ≤ 100000 := by
  obtain ⟨f, hf, hn⟩ := (taken_mem fs x).1 hx
  obtain ⟨t, _, rfl⟩ := List.mem_map.1 hn
  have h1 := sub_len f.2.data.toList t.2.1 t.2.2
  have h2 := h.long f hf
  have h3 : f.2.data.toList.length = f.2.size := by simp
  omega

theorem places_taken (fs : List Fil) (v : Value) (l : List UInt8) (w : World) (hf : Few fs) (hv : FilesAt w v fs) (hl : l ∈ takenL fs) :
    Calls Tryd.prog 12 #[.string ⟨l.toArray⟩, v] w fun e w' => ∃ n a c, 0 < n ∧ e = .returned (.slice a n c) ∧ Below w.heap.size w w' := by
  have hsm := taken_small hf hl
  have hsz : (⟨l.toArray⟩ : ByteArray).size = l.length := rfl
  refine (places_any fs v ⟨l.toArray⟩ w hf hv (by omega)).mono ?_
  rintro e w' ⟨v', rfl, hown, hb⟩
  have hne := (taken_places fs l).1 hl
  obtain ⟨a, c, rfl⟩ := own_slice hown
  exact ⟨_, a, c, List.length_pos_iff.2 hne, rfl, hb⟩

theorem free_taken (fs : List Fil) (v : Value) (l : List UInt8) (w : World) (hf : Few fs) (hv : FilesAt w v fs) (hl : l ∈ takenL fs) :
    Calls Tryd.prog 10 #[.string ⟨l.toArray⟩, v] w fun e w' => e = .returned (.bool false) ∧ Below w.heap.size w w' := by
  have hsm := taken_small hf hl
  have hsz : (⟨l.toArray⟩ : ByteArray).size = l.length := rfl
  refine (free_any fs v ⟨l.toArray⟩ w hf hv (by omega)).mono ?_
  rintro e w' ⟨rfl, hb⟩
  refine ⟨ret_bool ?_, hb⟩
  have hne := (taken_places fs l).1 hl
  show (alikeL l l && (getP (spellL fs) l).isEmpty) = false
  rw [Bool.and_eq_false_iff]
  right
  simpa using hne

def fileCells (f : Fil) : List Value := [.string f.1, .string f.2]

theorem file_flat_get (ts : List Fil) (i : Nat) (h : i < ts.length) (j : Nat) (hj : j < 2) : (ts.flatMap fileCells)[i * 2 + j]? = (fileCells ts[i])[j]? := by
  induction ts generalizing i with
  | nil => simp at h
  | cons t r ih =>
    cases i with
    | zero =>
      rw [List.flatMap_cons, List.getElem?_append_left (by simp [fileCells]; omega)]
      simp
    | succ i =>
      rw [List.flatMap_cons, List.getElem?_append_right (by simp [fileCells]; omega)]
      simp only [List.getElem_cons_succ]
      rw [← ih i (by simpa using h), show (i + 1) * 2 + j - (fileCells t).length = i * 2 + j by simp [fileCells]; omega]

theorem file_flat_len (ts : List Fil) : (ts.flatMap fileCells).length = ts.length * 2 := by
  induction ts with
  | nil => rfl
  | cons t r ih => rw [List.flatMap_cons, List.length_append, ih]; simp [fileCells]; omega

theorem files_own {w : World} {base : Nat} {v : Value} {n : Nat} {fs : List Fil} (h : w.ownsRow base 29 2 v n (fs.flatMap fileCells)) (hn : n = fs.length) : FilesAt w v fs := by
  subst hn
  rcases h.2 with ⟨rfl, h0⟩ | ⟨g, cap, cur, rfl, hb, hg, _⟩
  · exact ⟨_, _, by rw [h0], .inl (List.eq_nil_of_length_eq_zero h0)⟩
  · refine ⟨_, _, rfl, .inr ⟨g, 0, rfl, (Array.getElem?_eq_some_iff.1 hg).1, fun j f hj => ?_⟩⟩
    obtain ⟨hlt, rfl⟩ := List.getElem?_eq_some_iff.1 hj
    have hl := file_flat_len fs
    rw [Nat.zero_add]
    refine ⟨?_, ?_⟩
    · rw [h.cellAt (j * 2) (by omega)]; exact file_flat_get fs j hlt 0 (by omega)
    · rw [h.cellAt (j * 2 + 1) (by omega)]; exact file_flat_get fs j hlt 1 (by omega)

theorem Tryd.infoFil : (Tryd.prog.info? 29).map (fun i => (i.zero, i.size, i.bytes)) = some (some (.agg #[.string ⟨#[]⟩, .string ⟨#[]⟩]), 2, 32) := by kernel_rfl
end Go.Proofs.YtbbibngagdpdcaaDoor
