/-
  PROVED HERE: a part of the proof of the card 'SpellTellsCardSaid': what functions of the program, or of the document's packages, that SpellTells reaches compute (texts R0). CONDITIONS: each theorem's own.
-/
import Derived.Test.YtbbibngagdpdcaaGreatDoorM15
import Derived.Test.YtbbibngagdpdcaaGreatDoorCards
import Derived.Test.YtbbibngagdpdcaaGreatDoorTie
import Derived.ProofKit
import Derived.OpenShut
import Derived.Deep.DeepHandedRow
import Derived.Lib.LaidTab
import Derived.LaidSub
import Derived.Deep.Slices
import Derived.ChangeSame
import Derived.Carry
namespace Go.Proofs.YtbbibngagdpdcaaGreatDoor
open Go Go.RowKit
open Go.WideShapes Go.ChangeShapes
set_option maxRecDepth 100000

section
variable {H : Type} {enc : TypeId × Value → H} {P : Program}
/-- THE ROW's LAST STEP, OF A WALK OF WHICH 'Below' IS KNOWN, for a law that names no variable. -/
theorem post_low {f : Func} {s : ChangeSpec} {fresh handsOn again : Bool} {W W' : World} {args : Array Value} {v : Value} {ds gs : List (DataW H)} {before : List MemPlace}
    (hW : DataW.Whole enc P f.params.toList s.vars false W args.toList ds gs before) (hv0 : s.vars = [])
    (hres : ∀ (b : Nat) (sp : Nat → Bool) (hd : Bool), DataW.TrodAll enc P W' b sp hd f.resultTypes.toList (v.resultList f.resultTypes.size) (s.fn H (ds ++ gs)).results [])
    (hargs : ∀ sp : Nat → Bool, (∀ p ∈ before, sp p.block = true) → DataW.TrodAll enc P W' 0 sp true f.params.toList args.toList (s.fn H (ds ++ gs)).args before)
    (hvars : (s.fn H (ds ++ gs)).vars = []) (hb : Below W.heap.size W W')
    (hok : ∀ (j : Nat) (t : TypeId) (r : Value), f.resultTypes[j]? = some t → (v.resultList f.resultTypes.size)[j]? = some r → Value.okWide P W' .any 0 t r) :
    s.post enc P f false fresh handsOn again W args v W' := by
  have hlt : ∀ p ∈ before, p.block < W.heap.size := fun p hp => hW.lt p hp
  have hold : ∀ p ∈ before, (fun b => decide (b < W.heap.size)) p.block = true := fun p hp => by simpa using hlt p hp
  have hnone : ∀ sp : Nat → Bool, DataW.TrodVars enc P W' sp s.vars (s.fn H (ds ++ gs)).vars [] := fun sp => by rw [hv0, hvars]; exact rfl
  refine ⟨ds, gs, before, [], before, [], hW, hres _ _ _, hargs _ hold, hnone _, World.keptBut_mono (fun p hp => ⟨hp, Or.inr (Or.inl hp)⟩) (hb.frame (· ∈ before)), fun _ => ?_⟩
  obtain ⟨_, _, _, _, _, hz, _⟩ := hW
  refine ⟨hok, _, _, ([] ++ before) ++ [], ⟨[] ++ before, [], trodAll_append (hargs _ (fun _ _ => rfl)) (hres _ _ _), hnone _, rfl, ?_, ?_⟩, ?_⟩
  · intro b off hp
    have hin : MemPlace.cell b off ∈ before := by simpa using hp
    rw [hb.frozen (hlt _ hin)]
    exact hz b off hin
  · intro ha; cases ha
  · intro p hp _
    simpa using hp
end

theorem gPow : Tryz.prog.globalNamed "internal/strconv.uint64pow10" = some 1 := by kernel_rfl
theorem gPowType : (Tryz.prog.globals[1]?).map (·.type) = some 111 := by kernel_rfl
theorem cellsPow : Tryz.prog.cellsOf 111 = 20 := by kernel_rfl
theorem cellsU64 : Tryz.prog.cellsOf 96 = 1 := by kernel_rfl

/-- WHAT THE ROWS' LIST GIVES. -/
theorem tab_row {W : World} (h : laidMetH Tryz.prog [("math/bits.deBruijn32tab", Rows.laid_math_bits_deBruijn32tab), ("math/bits.deBruijn64tab", Rows.laid_math_bits_deBruijn64tab), ("internal/strconv.uint64pow10", Rows.laid_internal_strconv_uint64pow10)] W) : TabOk W := by
  have h1 := laidMetH.filter (fun x => x.1 == "internal/strconv.uint64pow10") h
  have h2 : Lib.TabIs Tryz.prog W "internal/strconv.uint64pow10" .u64 Lib.pow10Tab :=
    Lib.tabIs_of_head (rest := []) gPow gPowType Tryz.underlying111 Tryz.underlying96 cellsU64 cellsPow h1
  refine ⟨h2, ?_⟩
  unfold Lib.TabIs World.var? at h2
  rw [gPow] at h2
  simp only [Option.bind_some] at h2
  cases hh : W.heap[1]? with
  | none => rw [hh] at h2; cases h2
  | some o => exact (Array.getElem?_eq_some_iff.1 hh).1

theorem cellsFile : Tryz.prog.cellsOf 41 = 2 := by kernel_rfl
theorem cellsStr : Tryz.prog.cellsOf 9 = 1 := by kernel_rfl

section
variable {H : Type} {enc : TypeId × Value → H}

theorem file_open {W : World} {base n : Nat} {sp : Nat → Bool} {hd : Bool} {cs : List Value} {x : DataW H × List MemPlace} (h : DataW.trod enc Tryz.prog W base sp hd n 41 cs = some x) :
    ∃ f : Fil, cs = [.string f.1, .string f.2] ∧ f.1.size ≤ maxLen ∧ f.2.size ≤ maxLen := by
  obtain ⟨ys, n', hn, hy, hlen, hyl, hf⟩ := DataW.trod_struct Tryz.underlying41 h
  rw [cellsFile] at hlen
  have hyl2 : ys.length = 2 := hyl
  have h0 : DataW.trod enc Tryz.prog W base sp hd n' 9 (List.take (Tryz.prog.cellsOf 9) (List.drop 0 cs)) = ys[0]? := hf 0 _ rfl
  have h1 : DataW.trod enc Tryz.prog W base sp hd n' 9 (List.take (Tryz.prog.cellsOf 9) (List.drop 1 cs)) = ys[1]? := hf 1 _ rfl
  rw [cellsStr] at h0 h1
  rw [List.getElem?_eq_getElem (by omega)] at h0 h1
  obtain ⟨s0, e0, _, z0⟩ := DataW.trod_string Tryz.underlying9 h0
  obtain ⟨s1, e1, _, z1⟩ := DataW.trod_string Tryz.underlying9 h1
  match cs, hlen with
  | [a, b], _ =>
    simp at e0 e1
    subst e0 e1
    exact ⟨(s0, s1), rfl, z0, z1⟩

theorem files_read {W : World} {base : Nat} {v : Value} {d : DataW H} {p : List MemPlace} (hval : Value.okWide Tryz.prog W .any base 22 v)
    (h : DataW.Trod enc Tryz.prog W 0 (fun _ => true) true 22 v d p) :
    ∃ fs : List Fil, FilesAt W v fs ∧ fs.length ≤ maxLen ∧ ∀ f ∈ fs, f.1.size ≤ maxLen ∧ f.2.size ≤ maxLen := by
  obtain ⟨a, len, cap, rfl⟩ := okWide_slice Tryz.underlying22 hval
  obtain ⟨n, hn⟩ := h
  rcases Go.Deep.open_slice Tryz.underlying22 hn with ⟨hcs, _⟩ | ⟨a', len', cap', m, n', D, Pl, hcs, _, hl, hm, hmm, _, hel⟩
  · simp [Value.cells] at hcs
    obtain ⟨rfl, rfl, rfl⟩ := hcs
    exact ⟨[], ⟨_, _, rfl, .inl rfl⟩, Nat.zero_le _, fun f hf => by cases hf⟩
  · simp [Value.cells] at hcs
    obtain ⟨rfl, rfl, rfl⟩ := hcs
    rw [if_pos rfl] at hmm
    subst hmm
    have hx : ∀ i, i < len → ∃ f : Fil, W.cell? (a'.add (i * 2)) = some (.string f.1) ∧ W.cell? (a'.add (i * 2 + 1)) = some (.string f.2) ∧ f.1.size ≤ maxLen ∧ f.2.size ≤ maxLen := by
      intro i hi
      obtain ⟨cs', hc, ht⟩ := hel i (by omega)
      obtain ⟨f, rfl, z0, z1⟩ := file_open ht
      rw [cellsFile] at hc
      obtain ⟨_, _, hat⟩ := World.cells?_some hc
      have c0 := hat 0 (by omega)
      have c1 := hat 1 (by omega)
      rw [Go.Deep.add_add] at c0 c1
      exact ⟨f, c0, c1, z0, z1⟩
    obtain ⟨g, hg⟩ := Go.Deep.choose_lt (α := Fil) hx
    refine ⟨(List.range len).map g, ?_, by rw [List.length_map, List.length_range]; exact Nat.le_trans hl hm, ?_⟩
    · refine ⟨some a', m, by rw [List.length_map, List.length_range], ?_⟩
      by_cases h0 : len = 0
      · left; simp [h0]
      · right
        obtain ⟨c0, _⟩ := hg 0 (by omega)
        have hadd0 : a'.add (0 * 2) = a' := by simp [Addr.add]
        rw [hadd0] at c0
        have hspot : a'.spot = none := by
          cases hs : a'.spot with
          | none => rfl
          | some q =>
            exfalso
            unfold World.cell? at c0
            rw [hs] at c0
            simp at c0
            split at c0 <;> cases c0
        obtain ⟨b, off, spot⟩ := a'
        simp only at hspot
        subst hspot
        have hadd : ∀ i : Nat, ((⟨b, off, none⟩ : Addr).add i) = ⟨b, off + i, none⟩ := fun i => by unfold Addr.add; split <;> simp_all
        refine ⟨b, off, rfl, ?_, ?_⟩
        · cases hh : W.heap[b]? with
          | none => unfold World.cell? at c0; rw [hh] at c0; simp at c0
          | some o => exact (Array.getElem?_eq_some_iff.1 hh).1
        · intro j f hj
          rw [List.getElem?_map] at hj
          obtain ⟨j', hj', rfl⟩ := Option.map_eq_some_iff.1 hj
          obtain ⟨hjl, hje⟩ := List.getElem?_eq_some_iff.1 hj'
          simp at hje hjl
          subst hje
          obtain ⟨d0, d1, _, _⟩ := hg j hjl
          rw [hadd] at d0 d1
          exact ⟨d0, by rw [Nat.add_assoc]; exact d1⟩
    · intro f hf
      obtain ⟨i, hi, rfl⟩ := List.mem_map.1 hf
      obtain ⟨_, _, z0, z1⟩ := hg i (by simpa using hi)
      exact ⟨z0, z1⟩
end
end Go.Proofs.YtbbibngagdpdcaaGreatDoor
