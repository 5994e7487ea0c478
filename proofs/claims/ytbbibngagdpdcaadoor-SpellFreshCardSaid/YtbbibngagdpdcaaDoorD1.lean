import Derived.Test.YtbbibngagdpdcaaDoorD0
namespace Go.Proofs.YtbbibngagdpdcaaDoor
open Go Go.RowKit
open Go.Shelf
open Go.ChangeMaps Go.MapKept

/-- A FILE: its name, its text. -/
abbrev Fil := ByteArray × ByteArray

/-- THE SLICE v OF FILES READS AS fs IN w. -/
def FilesAt (w : World) (v : Value) (fs : List Fil) : Prop :=
  ∃ a c, v = .slice a fs.length c ∧ (fs = [] ∨ ∃ b off, a = some ⟨b, off, none⟩ ∧ b < w.heap.size ∧ ∀ j f, fs[j]? = some f → w.cell? ⟨b, off + j * 2, none⟩ = some (.string f.1) ∧ w.cell? ⟨b, off + j * 2 + 1, none⟩ = some (.string f.2))

theorem FilesAt.later {w w' : World} {v : Value} {fs : List Fil} (h : FilesAt w v fs) (hb : Below w.heap.size w w') : FilesAt w' v fs := by
  obtain ⟨a, c, rfl, h⟩ := h
  refine ⟨a, c, rfl, ?_⟩
  rcases h with h | ⟨b, off, rfl, hlt, hc⟩
  · exact .inl h
  · exact .inr ⟨b, off, rfl, Nat.lt_of_lt_of_le hlt hb.size, fun j f hj => ⟨(hb.cell (p := ⟨b, off + j * 2, none⟩) hlt).trans (hc j f hj).1, (hb.cell (p := ⟨b, off + j * 2 + 1, none⟩) hlt).trans (hc j f hj).2⟩⟩

def sub (l : List UInt8) (a b : Nat) : List UInt8 := (l.drop a).take (b - a)

/-- ONE FILE's NAMES, PUT INTO THE MAP. -/
def fileSpell (F : Spell) (i : Nat) (l : List UInt8) (ts : List Tok) : Spell := ts.foldl (fun F t => putP F (sub l t.2.1 t.2.2) (i, t.2.1)) F

/-- WHAT spell.spelled GIVES. -/
def spellFrom : Spell → Nat → List Fil → Spell
  | F, _, [] => F
  | F, i, f :: r => spellFrom (fileSpell F i f.2.data.toList (namesL f.2.data.toList)) (i + 1) r

def spellL (fs : List Fil) : Spell := spellFrom [] 0 fs

/-- FILES THAT THE WALK TAKES. -/
structure Few (fs : List Fil) : Prop where
  many : fs.length ≤ 100
  long : ∀ f ∈ fs, f.2.size ≤ 100000

/-- WHAT THE INNER LOOP OF spell.spelled KEEPS. -/
structure InnerInv (w wi : World) (fb g2 cap : Nat) (f : Fil) (ts : List Tok) (F : Spell) : Prop where
  spell : SpellAt wi w.heap.size (w.heap.size + 1) F
  file : wi.heap[fb]? = some (.cells #[.string f.1, .string f.2] 29 (0, 0))
  toks : wi.ownsRow (w.heap.size + 1) 54 3 (.slice (some ⟨g2, 0, none⟩) ts.length cap) ts.length (ts.flatMap tokCells)
  below : Below w.heap.size w wi

theorem not_own {w : World} {base : Nat} {e e' : TypeId} {size : Nat} {v : Value} {n : Nat} {xs : List Value} (h : w.ownsRow base e size v n xs) {k : Nat} {cs : Array Value} {fr : Nat × Nat} (hk : w.heap[k]? = some (.cells cs e' fr)) (hne : e ≠ e') : some k ≠ v.ownBlock := by
  intro he
  rcases h.2 with ⟨rfl, _⟩ | ⟨g, cap, cur, rfl, _, hg, _⟩
  · cases he
  · cases he
    rw [hg] at hk
    cases hk
    exact hne rfl

theorem InnerInv.step {w wi w2 w3 : World} {fb g2 cap : Nat} {f : Fil} {ts : List Tok} {F F' : Spell} {v0 : Value} {n0 : Nat} {xs0 : List Value} (h : InnerInv w wi fb g2 cap f ts F) (o1 o2 : Obj)
    (own0 : (wi.alloc o1).ownsRow (w.heap.size + 1) 56 2 v0 n0 xs0) (hgrow : ((wi.alloc o1).alloc o2).grownBy w2 v0.ownBlock) (hsp : SpellAt w3 w.heap.size (w.heap.size + 1) F') (hg3 : w2.grownBy w3 (some w.heap.size)) :
    InnerInv w w3 fb g2 cap f ts F' := by
  have hsz : w.heap.size ≤ wi.heap.size := h.below.size
  have hfb : fb < wi.heap.size := (Array.getElem?_eq_some_iff.1 h.file).1
  obtain ⟨es, clock, hmap, _⟩ := h.spell.ex
  have hmlt := h.spell.lt
  have hf1 : (wi.alloc o1).heap[fb]? = some (.cells #[.string f.1, .string f.2] 29 (0, 0)) := (Below.heap_alloc _ _ _ hfb).trans h.file
  have hf2 : ((wi.alloc o1).alloc o2).heap[fb]? = some (.cells #[.string f.1, .string f.2] 29 (0, 0)) := (Below.heap_alloc _ _ _ (by simp; omega)).trans hf1
  have hf3 := (hgrow.block fb (by simp; omega) (not_own own0 hf1 (by decide))).trans hf2
  have hne : some fb ≠ some w.heap.size := by
    intro e
    cases e
    rw [h.file] at hmap
    cases hmap
  have hf4 := (hg3.block fb (Array.getElem?_eq_some_iff.1 hf3).1 hne).trans hf3
  refine ⟨hsp, hf4, ?_, ?_⟩
  · have t1 := h.toks.alloc o1
    have t2 := t1.alloc o2
    have n1 : some g2 ≠ v0.ownBlock := by
      rcases t1.2 with ⟨he, _⟩ | ⟨g, cap', cur, he, _, hg, _⟩
      · cases he
      · simp only [Value.slice.injEq, Option.some.injEq, Addr.mk.injEq, and_true, true_and] at he
        obtain ⟨rfl, rfl⟩ := he
        exact not_own own0 hg (by decide)
    have t3 := t2.kept hgrow (Or.inr n1)
    have n2 : some g2 ≠ some w.heap.size := by
      intro e
      have := (h.toks.lt g2 rfl).1
      cases e
      omega
    exact t3.kept hg3 (Or.inr n2)
  · have b1 := ((h.below.alloc hsz o1).alloc (by simp; omega) o2).grown hgrow (by simp; omega) (fun k hk => by have := (own0.lt k hk).1; omega)
    exact b1.grown hg3 b1.size (fun k hk => by cases hk; exact Nat.le_refl _)

theorem scan_sub (l : List UInt8) : ∀ (f k : Nat), k ≤ l.length → ∀ t ∈ scanGo f l k, t.2.1 ≤ t.2.2 ∧ t.2.2 ≤ l.length
  | 0, _, _, t, h => by simp [scanGo] at h
  | f + 1, k, hk, t, h => by
    unfold scanGo at h
    by_cases hlt : k < l.length
    · have hb := tok_bounds l k hlt
      rw [if_pos hlt] at h
      rcases List.mem_cons.1 h with rfl | h
      · exact ⟨by dsimp only; omega, hb.2⟩
      · exact scan_sub l f _ hb.2 t h
    · rw [if_neg hlt] at h
      simp at h
      subst h
      exact ⟨Nat.le_refl _, Nat.le_refl _⟩

theorem names_sub (l : List UInt8) (t : Tok) (h : t ∈ namesL l) : t.2.1 ≤ t.2.2 ∧ t.2.2 ≤ l.length :=
  scan_sub l _ 0 (Nat.zero_le _) t (List.mem_filter.1 h).1

theorem names_len (l : List UInt8) : (namesL l).length ≤ l.length + 1 := by
  have h1 := List.length_filter_le namedT (scanL l)
  have h2 := (scan_ends l (l.length + 1) 0 (by omega) (Nat.zero_le _)).2
  have h3 : (scanL l).length ≤ l.length + 1 := h2
  exact Nat.le_trans h1 h3

theorem putP_len (F : Spell) (k : List UInt8) (p : Plc) : (putP F k p).length ≤ F.length + 1 := by
  induction F with
  | nil => simp [putP]
  | cons f r ih =>
    unfold putP
    split
    · simp
    · simp only [List.length_cons]; omega

theorem getP_put (F : Spell) (k k' : List UInt8) (p : Plc) : getP (putP F k p) k' = getP F k' ++ (if k = k' then [p] else []) := by
  induction F with
  | nil => simp [putP, getP]
  | cons f r ih =>
    unfold putP
    by_cases hk : f.1 = k
    · rw [if_pos hk]
      unfold getP
      dsimp only
      by_cases h' : k = k'
      · rw [if_pos h', if_pos h', if_pos (hk.trans h')]
      · rw [if_neg h', if_neg h', if_neg (fun e => h' (hk ▸ e)), List.append_nil]
    · rw [if_neg hk]
      unfold getP
      by_cases h' : f.1 = k'
      · rw [if_pos h', if_pos h', if_neg (fun e => hk (h'.trans e.symm)), List.append_nil]
      · rw [if_neg h', if_neg h', ih]

theorem getP_put_len (F : Spell) (k k' : List UInt8) (p : Plc) : (getP (putP F k p) k').length ≤ (getP F k').length + 1 := by
  rw [getP_put, List.length_append]
  split <;> simp

theorem strV_ext (s : ByteArray) (a b : Nat) : strV (sub s.data.toList a b) = .string (s.extract a b) := by
  rw [sub, ← Lib.extract_data, strV_data]

end Go.Proofs.YtbbibngagdpdcaaDoor
