/-
  PROVED HERE: a part of the proof of the card 'SpellTellsCardSaid': what functions of the program, or of the document's packages, that SpellTells reaches compute (texts D2, D3, D4). CONDITIONS: each theorem's own.
-/
import Derived.Test.YtbbibngagdpdcaaGreatDoorM11
import Derived.Sort.KeysCollected
import Derived.Sort.OwnSorted
import Derived.Maps.RangeWalk
namespace Go.Proofs.YtbbibngagdpdcaaGreatDoor
open Go Go.RowKit
open Go.Shelf
open Go.ChangeMaps Go.MapKept

theorem Tryz.infoPlc : (Tryz.prog.info? 32).map (fun i => (i.zero, i.size, i.bytes)) = some (some (.agg #[.int .i64 0, .int .i64 0]), 2, 16) := by kernel_rfl

theorem plc_flat (ps : List Plc) (p : Plc) : (ps ++ [p]).flatMap placeCells = ps.flatMap placeCells ++ placeCells p := by simp

set_option maxHeartbeats 4000000 in
set_option maxRecDepth 100000 in
theorem spelled_any (fs : List Fil) (v : Value) (w : World) (hf : Few fs) (hv : FilesAt w v fs) :
    Calls Tryz.prog 17 #[v] w fun e w' => e = .returned (.map (some w.heap.size)) ∧ SpellAt w' w.heap.size (w.heap.size + 1) (spellL fs) ∧ Below w.heap.size w w' := by
  have hmm := @run_makeMap Tryz.prog
  obtain ⟨i0, hi0, hz0, hz1, hz2⟩ := info_parts Tryz.infoPlc
  obtain ⟨a, c, rfl, hv'⟩ := hv
  have HV := Lib.hid hv'
  have HF := Lib.hid hf
  have hn := hf.many
  clear hv' hf
  go_enter Tryz.func17, Tryz.ntmps17
  go_wp2
  have HB : Hid (Below w.heap.size w (w.alloc (.map #[] 0))) := (Below.refl _ w).alloc (Nat.le_refl _) _
  have HS : Hid (SpellAt (w.alloc (.map #[] 0)) w.heap.size (w.heap.size + 1) []) := SpellAt.made w
  go_loopg [12] fs.length (fun g s12 wr => ∃ (i : Nat) (F : Spell), s12 = .int .i64 i ∧ i ≤ fs.length ∧ fs.length - i ≤ g ∧ Hid (SpellAt wr w.heap.size (w.heap.size + 1) F) ∧ Hid (Below w.heap.size w wr) ∧ Hid (spellFrom F i (fs.drop i) = spellL fs) ∧ Hid (∀ k, (getP F k).length ≤ 100001 * i) ∧ Hid (F.length ≤ 100001 * i))
  case atStart => exact ⟨0, [], rfl, Nat.zero_le _, Nat.le_refl _, HS, HB, rfl, fun _ => Nat.zero_le _, Nat.zero_le _⟩
  case round =>
    obtain ⟨i, F, rfl, hi, hg, hS, hB, hR, hG, hL⟩ := hrel
    clear HS HB
    by_cases hlt : i < fs.length
    · rcases HV.out with h0 | ⟨b, off, ha, hb, hc⟩
      · subst h0; simp at hlt
      obtain ⟨f, hfi⟩ : ∃ f, fs[i] = f := ⟨_, rfl⟩
      obtain ⟨c0, c1⟩ := hc i f (by rw [List.getElem?_eq_getElem hlt, hfi])
      have e0 := (hB.out.cell (p := ⟨b, off + i * 2, none⟩) hb).trans c0
      have e1 := (hB.out.cell (p := ⟨b, off + i * 2 + 1, none⟩) hb).trans c1
      subst ha
      have hfs : f.2.size ≤ 100000 := HF.out.long f (by rw [← hfi]; exact List.getElem_mem _)
      have HFI := Lib.hid hfi
      clear c0 c1 hc hfi
      go_wp2_with (go_at_call 42; refine (names_any _ _ (by omega)).mono ?_; rintro e w2 ⟨g2, cap, rfl, hown, hb2⟩)
      have hal : Below wr.heap.size wr (wr.alloc (.cells #[.string f.1, .string f.2] 41)) := (Below.refl _ _).alloc (Nat.le_refl _) _
      have hfile : w2.heap[wr.heap.size]? = some (.cells #[.string f.1, .string f.2] 41 (0, 0)) := (hb2.block wr.heap.size (by simp)).trans (heap_alloc_new wr _)
      have hI0 : Hid (InnerInv w w2 wr.heap.size g2 cap f (namesL f.2.data.toList) F) :=
        ⟨(hS.out.later hal).later hb2, hfile, ownsRow_base hown (by have := hB.out.size; simp; omega), Below.next (Below.next hB.out (Nat.le_refl _) hal) (Nat.le_refl _) hb2⟩
      have hR0 := hR.out
      rw [List.drop_eq_getElem_cons hlt, HFI.out, spellFrom] at hR0
      have htl := names_len f.2.data.toList
      have hlf : f.2.data.toList.length = f.2.size := by simp
      rw [hlf] at htl
      have hts := names_sub f.2.data.toList
      rw [hlf] at hts
      obtain ⟨ts, hTS⟩ : ∃ ts, namesL f.2.data.toList = ts := ⟨_, rfl⟩
      rw [hTS] at hI0 hR0 htl hts ⊢
      have HR0 := Lib.hid hR0
      have HTS := Lib.hid hts
      obtain ⟨fb, hfb⟩ : ∃ fb, fb = wr.heap.size := ⟨_, rfl⟩
      rw [← hfb] at hI0 ⊢
      have hS0 : Hid (∀ k, (getP F k).length ≤ 100001 * i + 0) := hG.out
      have hL0 : Hid (F.length ≤ 100001 * i + 0) := hL.out
      clear hal hfile hown hb2 hS hB hR hR0 hts hlf hTS hfb e0 e1 hG hL
      obtain ⟨wo, rfl⟩ : ∃ wo : World, wo = wr := ⟨_, rfl⟩
      go_loopg [21] ts.length (fun g3 s21 wi => ∃ (k : Nat) (G : Spell), s21 = .int .i64 k ∧ k ≤ ts.length ∧ ts.length - k ≤ g3 ∧ Hid (InnerInv w wi fb g2 cap f ts G) ∧ Hid (spellFrom (fileSpell G i f.2.data.toList (ts.drop k)) (i + 1) (fs.drop (i + 1)) = spellL fs) ∧ Hid (∀ k', (getP G k').length ≤ 100001 * i + k) ∧ Hid (G.length ≤ 100001 * i + k))
      case atStart => exact ⟨0, F, rfl, Nat.zero_le _, Nat.le_refl _, hI0, HR0.out, hS0, hL0⟩
      case round =>
        obtain ⟨k, G, rfl, hk, hg3, hI, hR, hG, hL⟩ := hrel
        clear hI0 HR0 hS0 hL0
        by_cases hkl : k < ts.length
        · obtain ⟨t, ht⟩ : ∃ t, ts[k] = t := ⟨_, rfl⟩
          obtain ⟨d0, d1, d2⟩ := tok_cells hI.out.toks k hkl
          rw [ht] at d0 d1 d2
          obtain ⟨hb1, hb2⟩ := HTS.out t (by rw [← ht]; exact List.getElem_mem _)
          have hfl : fb < wr.heap.size := (Array.getElem?_eq_some_iff.1 hI.out.file).1
          have q0 : (wr.alloc (.cells #[.int .i64 t.1, .int .i64 (t.2.1 : Nat), .int .i64 (t.2.2 : Nat)] 51)).cell? ⟨fb, 1, none⟩ = some (.string f.2) := by
            rw [cell_of_row _ _ _ _ _ _ ((Below.heap_alloc _ _ _ hfl).trans hI.out.file)]; rfl
          have hsub : (sub f.2.data.toList t.2.1 t.2.2).length ≤ 100000 := by
            rw [sub, List.length_take, List.length_drop]
            have : f.2.data.toList.length = f.2.size := by simp
            omega
          obtain ⟨v0, hlook, own0, hback⟩ := (hI.out.spell.later ((Below.refl _ _).alloc (Nat.le_refl _) (.cells #[.int .i64 t.1, .int .i64 (t.2.1 : Nat), .int .i64 (t.2.2 : Nat)] 51))).look (sub f.2.data.toList t.2.1 t.2.2) (by unfold maxLen; omega) (by have := hL.out; unfold maxLen; omega)
          rw [strV_ext] at hlook hback
          have hcnt := hG.out (sub f.2.data.toList t.2.1 t.2.2)
          have HT := Lib.hid ht
          have HO := Lib.hid own0
          have HBK := Lib.hid hback
          clear ht own0 hback hsub
          go_wp2_with (at_builtin; refine wpList_append_own_at _ rfl (.tmp 36) (.tmp 41) 28 rfl (w.heap.size + 1) 32 i0 (.agg #[.int .i64 0, .int .i64 0]) 2 16 Tryz.underlying28 hi0 hz0 hz1 hz2 rfl (by decide) v0 _ _ rfl (HO.out.alloc _) ⟨wr.heap.size + 1, 0, none⟩ 1 1 (placeCells (i, t.2.1)) rfl rfl ?p1 ?p2 ?p3 ?p4 ?p5 ?_)
          case p1 =>
            intro j u hj
            have e : ((⟨wr.heap.size + 1, 0, none⟩ : Addr).add j) = ⟨wr.heap.size + 1, j, none⟩ := by unfold Addr.add; split <;> simp_all
            rw [e, new_cell _ _ _ _ _ (by simp)]
            match j, hj with
            | 0, hj | 1, hj => simpa [placeCells] using hj
          case p2 =>
            intro u hu
            simp [placeCells] at hu
            rcases hu with rfl | rfl <;> rfl
          case p3 => unfold maxLen; omega
          case p4 => omega
          case p5 => have := hI.out.below.size; simp; omega
          intro v' w3 hown' hgrow _ hloc
          rw [← plc_flat] at hown'
          obtain ⟨w4, hupd, hsp, hg4⟩ := HBK.out w3 v' (i, t.2.1) ((World.grownBy_alloc _ _ _).trans hgrow) hown' (hloc.imp id (fun h => Or.inr (by rw [h]; simp)))
          have hI4 : Hid (InnerInv w w4 fb g2 cap f ts (putP G (sub f.2.data.toList t.2.1 t.2.2) (i, t.2.1))) := hI.out.step _ _ HO.out hgrow hsp hg4
          have hG4 : Hid (∀ k', (getP (putP G (sub f.2.data.toList t.2.1 t.2.2) (i, t.2.1)) k').length ≤ 100001 * i + (k + 1)) := fun k' => Nat.le_trans (getP_put_len _ _ _ _) (by have := hG.out k'; omega)
          have hL4 : Hid ((putP G (sub f.2.data.toList t.2.1 t.2.2) (i, t.2.1)).length ≤ 100001 * i + (k + 1)) := Nat.le_trans (putP_len _ _ _) (by have := hL.out; omega)
          have hR4 := hR.out
          rw [List.drop_eq_getElem_cons hkl, HT.out, fileSpell, List.foldl_cons] at hR4
          have HR4 := Lib.hid hR4
          clear hown' hgrow hloc hsp hg4 HBK HO hI hG hL hR hR4 hlook d0 d1 d2 q0 hcnt
          go_wp2
          go_roundg (ts.length - (k + 1))
          case measure => omega
          case rel => exact ⟨k + 1, _, by go_num, by omega, Nat.le_refl _, hI4, HR4.out, hG4, hL4⟩
        · obtain rfl : k = ts.length := by omega
          have hR4 := hR.out
          rw [List.drop_length, fileSpell, List.foldl_nil] at hR4
          have HR4 := Lib.hid hR4
          clear hR hR4
          go_wp2
          go_roundg (fs.length - (i + 1))
          case measure => omega
          case rel => exact ⟨i + 1, G, by go_num, by omega, Nat.le_refl _, hI.out.spell, hI.out.below, HR4.out, fun k' => Nat.le_trans (hG.out k') (by omega), Nat.le_trans hL.out (by omega)⟩
    · obtain rfl : i = fs.length := by omega
      have hR4 := hR.out
      rw [List.drop_length, spellFrom] at hR4
      have HR4 := Lib.hid hR4
      clear hR hR4
      go_wp2
      go_ret
      rw [← HR4.out]
      exact ⟨rfl, hS.out, hB.out⟩
end Go.Proofs.YtbbibngagdpdcaaGreatDoor

namespace Go.Proofs.YtbbibngagdpdcaaGreatDoor
open Go Go.RowKit
open Go.Shelf
open Go.ChangeMaps Go.MapKept
open Go.WideElems (Fit rd rg pl rd_val elemAt rd_mk rd_key)
open Go.Maps (Keyed)
open Go.Sort

/-- THE KEYS OF A MAP OF PLACES, IN ORDER. -/
def risingL (F : Spell) : List (List UInt8) := (F.map (·.1)).mergeSort leB

theorem SpellAt.owns {w : World} {b base : Nat} {F : Spell} (h : SpellAt w b base F) : ∃ D : DataW Unit, w.ownsMap Tryz.prog 9 R0 b F.length D ∧ (strKeys D).Perm (F.map (·.1)) ∧ Maps.size D = F.length := by
  obtain ⟨hlow, es, clock, hblk, hfit, hlen, hent, hap⟩ := h
  refine ⟨_, ⟨es, clock, hblk, hfit, by rw [← Array.length_toList]; omega, rfl⟩, ?_, ?_⟩
  · have hp := (WideShapes.sorted_perm (es.toList.map (rg Tryz.prog 9 R0)))
    refine (hp.map (fun p => strOf p.1)).trans ?_
    rw [List.map_map]
    have e : es.toList.map ((fun p : Lit × DataW Unit => strOf p.1) ∘ rg Tryz.prog 9 R0) = F.map (·.1) := by
      apply List.ext_getElem (by simp; simpa using hlen)
      intro i h1 h2
      simp only [List.getElem_map, Function.comp]
      have i1 : i < es.toList.length := by simpa using h1
      have i2 : i < F.length := by simpa using h2
      obtain ⟨q1, _⟩ := hent i es.toList[i] F[i] (List.getElem?_eq_getElem i1) (List.getElem?_eq_getElem i2)
      obtain ⟨y, hy⟩ := hfit.reads es.toList[i] (List.getElem_mem _)
      have hk := rd_key hy
      obtain ⟨x, ex, hx, _⟩ := Maps.keyOf_str Tryz.underlying9 hk
      have : (rg Tryz.prog 9 R0 es.toList[i]).1 = .string x := by
        have h3 := Go.WideElems.rg_of hy
        rw [h3]
        exact hx
      rw [this]
      rw [q1] at ex
      exact (strV_inj ex).symm
    rw [e]
  · show List.length _ = _
    have hp := (WideShapes.sorted_perm (es.toList.map (rg Tryz.prog 9 R0)))
    rw [hp.length_eq, List.length_map, hlen]

set_option maxRecDepth 100000 in
set_option maxHeartbeats 1000000 in
theorem rising_any (F : Spell) (b : Nat) (w : World) (hF : F.length ≤ 100000000) (hS : SpellAt w b (b + 1) F) :
    Calls Tryz.prog 30 #[.map (some b)] w fun e w' => ∃ v, e = .returned v ∧ w'.ownsRow w.heap.size 9 1 v F.length ((risingL F).map strV) ∧ Below w.heap.size w w' := by
  obtain ⟨D0, hown, hperm, hsize⟩ := hS.owns
  obtain ⟨i0, hi, hz0, hz1, hz2⟩ := info_parts Tryz.infoStr
  have hbl := hown.lt
  have K : Keyed Tryz.prog 9 := Maps.string_keyed Tryz.underlying9
  clear hS
  go_enter Tryz.func30, Tryz.ntmps30
  go_wp2_with (first
    | (at_range; refine wpList_range_own _ rfl _ 43 rfl 9 28 K Tryz.underlying43 R0 b _ _ rfl hown ?_; intro w0 hrg0 hg0 hs0; rw [hsize] at hrg0; clear hs0)
    | go_in)
  go_frame
  go_loopg [3] F.length (fun g v wr => ∃ (left : Lit → Bool) (cnt : Nat) (ss : List (List UInt8)), cnt ≤ g ∧ wr.ranges Tryz.prog 9 R0 b w.heap.size F.length D0 left cnt ∧ ss.length + cnt ≤ F.length ∧
      wr.ownsRow w.heap.size 9 1 v ss.length (ss.map encStr) ∧ Collected D0 left ss ∧ Below w.heap.size w wr)
  case atStart =>
    exact ⟨_, _, [], by omega, hrg0, by simp, World.ownsRow_nil _ _ _ _, Collected.start D0, (Below.refl _ _).grown hg0 (Nat.le_refl _) (fun j hj => by cases hj)⟩
  case round =>
    obtain ⟨left, cnt, ss, hcg, hrg, hcs, hrow, hC, hnx⟩ := hrel
    go_wp2_with (first
      | (at_next; refine wpList_next_ranges _ rfl _ rfl 9 K R0 encStr (fun v => v) (fun key kl hk => by obtain ⟨x, hx, _⟩ := Maps.keyOf_str Tryz.underlying9 hk; exact ⟨x, hx⟩) (fun v y hv => ⟨v, rfl⟩) b w.heap.size _ _ _ _ rfl hrg ?_ ?_)
      | go_in)
    · intro hc0 hl0
      have hpp := hC.perm hown K Tryz.underlying9 hl0
      have hss : Hid (ss.mergeSort leB = risingL F) := mergeSort_of_perm (hpp.trans hperm)
      have hsl : Hid (ss.length = F.length) := by rw [Hid, (hpp.trans hperm).length_eq, List.length_map]
      rcases hrow.2 with ⟨rfl, h0⟩ | ⟨g, cap, cur, rfl, hbase, hb, h1, h2, h3, h4⟩
      · have hs0 : ss = [] := List.eq_nil_of_length_eq_zero (by simpa using h0)
        subst hs0
        have hc := Tryz.slices_Sort_string_none none 0 wr
        go_wp2_with (go_at_call 49; refine hc.mono ?_; rintro e w' ⟨rfl, rfl⟩)
        go_ret
        have hr0 : risingL F = [] := by rw [← hss.out]; simp
        refine ⟨_, rfl, ?_, hnx⟩
        rw [hr0, ← hsl.out]
        exact World.ownsRow_nil _ _ _ _
      · have hH : Holds encStr wr g 0 ss.toArray := holds_of_block hb (by simpa using h4)
        have hgl : g < wr.heap.size := (Array.getElem?_eq_some_iff.1 hb).1
        have hc := Tryz.slices_Sort_string g 0 cap ss wr hH hgl (by omega)
        go_wp2_with (go_at_call 49; refine hc.mono ?_; rintro e w' ⟨rfl, nn, os, rfl⟩)
        go_ret
        refine ⟨_, rfl, ?_, hnx.grown (grownBy_sorted _) hnx.size (fun j hj => by cases hj; exact hbase)⟩
        have := ownsRow_sorted (w := wr) (n := nn) (os := os) (ss := ss) (ts := ss.mergeSort leB) (by simp) hbase hb h1 h2 h3
        rw [hss.out, hsl.out] at this
        rw [hss.out, hsl.out]
        exact this
    · intro x c kl yd yp w2 cnt2 hkey hlk hv hat hrg2 hlt hg2 hs2 hen
      obtain ⟨x', ex, rfl, _⟩ := Maps.keyOf_str Tryz.underlying9 hkey
      obtain rfl : x = x' := encStr_inj ex
      have hrow2 := hrow.kept hg2 (Or.inr (row_ne_iter hrow hrg).symm)
      clear hs2
      go_wp2_with (first
        | (at_builtin; refine wpList_append_own _ rfl _ _ 35 rfl w.heap.size 9 i0 (.string ⟨#[]⟩) 1 16 Tryz.underlying35 hi hz0 hz1 hz2 rfl (by decide) _ _ _ rfl (hrow2.alloc _) ⟨w2.heap.size, 0, none⟩ 1 1 [encStr x] rfl rfl (cell_one_new _ _ _) (by simp [Value.oneCell', encStr]) (by unfold maxLen at *; omega) (by omega) (by have := hnx.size; have := hg2.size; simp; omega) ?_; intro v' w3 hown' hg3 hnil3; go_frame)
        | go_in)
      have hrg3 := (hrg2.alloc _).kept hg3 (row_ne_low hrow2 hbl) (row_ne_iter hrow2 hrg2)
      go_roundg cnt2
      case measure => omega
      case rel =>
        refine ⟨_, cnt2, ss ++ [x], Nat.le_refl _, hrg3, by simp; omega, by simpa using hown', hC.step hlk hat, ?_⟩
        exact ((hnx.grown hg2 hnx.size (fun j hj => by cases hj; exact Nat.le_refl _)).alloc (by have := hnx.size; have := hg2.size; omega) _).grown hg3 (by have := hnx.size; have := hg2.size; simp; omega) (fun j hj => (hrow2.lt j hj).1)
end Go.Proofs.YtbbibngagdpdcaaGreatDoor

namespace Go.Proofs.YtbbibngagdpdcaaGreatDoor
open Go Go.RowKit
open Go.Shelf
open Go.ChangeMaps Go.MapKept

theorem fileSpell_len (F : Spell) (i : Nat) (l : List UInt8) (ts : List Tok) : (fileSpell F i l ts).length ≤ F.length + ts.length := by
  induction ts generalizing F with
  | nil => simp [fileSpell]
  | cons t r ih =>
    have h1 := ih (putP F (sub l t.2.1 t.2.2) (i, t.2.1))
    have h2 := putP_len F (sub l t.2.1 t.2.2) (i, t.2.1)
    show (fileSpell (putP F (sub l t.2.1 t.2.2) (i, t.2.1)) i l r).length ≤ _
    simp only [List.length_cons]
    omega

theorem spellFrom_len (fs : List Fil) (hl : ∀ f ∈ fs, f.2.size ≤ 100000) : ∀ (F : Spell) (i : Nat), (spellFrom F i fs).length ≤ F.length + 100001 * fs.length := by
  induction fs with
  | nil => intro F i; simp [spellFrom]
  | cons f r ih =>
    intro F i
    have h1 := ih (fun x hx => hl x (by simp [hx])) (fileSpell F i f.2.data.toList (namesL f.2.data.toList)) (i + 1)
    have h2 := fileSpell_len F i f.2.data.toList (namesL f.2.data.toList)
    have h3 := names_len f.2.data.toList
    have h4 := hl f (by simp)
    have h5 : f.2.data.toList.length = f.2.size := by simp
    rw [spellFrom]
    simp only [List.length_cons]
    omega

theorem spell_len (fs : List Fil) (h : Few fs) : (spellL fs).length ≤ 10000100 := by
  have h1 := spellFrom_len fs h.long [] 0
  have h2 := h.many
  have h3 : (spellFrom [] 0 fs).length = (spellL fs).length := rfl
  have h4 : ([] : Spell).length = 0 := rfl
  omega

/-- WHAT spell.Taken GIVES. -/
def takenL (fs : List Fil) : List (List UInt8) := risingL (spellL fs)

theorem taken_len (fs : List Fil) : (takenL fs).length = (spellL fs).length := by simp [takenL, risingL]

theorem strs_own {w : World} {base n : Nat} {v : Value} {zs : List (List UInt8)} (h : w.ownsRow base 9 1 v n (zs.map strV)) (hn : n = zs.length) : StrsAt w v zs := by
  subst hn
  rcases h.2 with ⟨rfl, h0⟩ | ⟨g, cap, cur, rfl, hb, hg, _⟩
  · exact ⟨_, _, by rw [h0], .inl (List.eq_nil_of_length_eq_zero h0)⟩
  · refine ⟨_, _, rfl, .inr ⟨g, 0, rfl, (Array.getElem?_eq_some_iff.1 hg).1, fun j hj => ?_⟩⟩
    have := h.cellAt j (by simpa using hj)
    rw [Nat.zero_add, this]
    simp [List.getD, List.getElem?_eq_getElem hj]

set_option maxHeartbeats 1000000 in
theorem taken_any (fs : List Fil) (v : Value) (w : World) (hf : Few fs) (hv : FilesAt w v fs) :
    Calls Tryz.prog 12 #[v] w fun e w' => ∃ v', e = .returned v' ∧ w'.ownsRow w.heap.size 9 1 v' (takenL fs).length ((takenL fs).map strV) ∧ Below w.heap.size w w' := by
  obtain ⟨a, c, rfl, hv'⟩ := id hv
  clear hv'
  have HV := Lib.hid hv
  have HF := Lib.hid hf
  clear hv hf
  go_enter Tryz.func12, Tryz.ntmps12
  go_wp2_with fail
  refine (spelled_any fs _ _ HF.out HV.out).mono ?_
  rintro e w1 ⟨rfl, hS, hb1⟩
  have hr := rising_any (spellL fs) w.heap.size w1 (by have := spell_len fs HF.out; omega) hS
  rw [← taken_len] at hr
  have HR := Lib.hid hr
  have HB := Lib.hid hb1
  clear hS hb1 hr
  dsimp only
  go_wp2_with fail
  refine HR.out.mono ?_
  rintro e w2 ⟨v', rfl, hown, hb2⟩
  go_wp2
  go_ret
  exact ⟨v', rfl, ownsRow_base hown HB.out.size, Below.next HB.out (Nat.le_refl _) hb2⟩

set_option maxHeartbeats 1000000 in
theorem places_any (fs : List Fil) (v : Value) (s : ByteArray) (w : World) (hf : Few fs) (hv : FilesAt w v fs) (hs : s.size ≤ 140737488351232) :
    Calls Tryz.prog 8 #[.string s, v] w fun e w' => ∃ v', e = .returned v' ∧ w'.ownsRow (w.heap.size + 1) 32 2 v' (getP (spellL fs) s.data.toList).length ((getP (spellL fs) s.data.toList).flatMap placeCells) ∧ Below w.heap.size w w' := by
  obtain ⟨a, c, rfl, hv'⟩ := id hv
  clear hv'
  have HV := Lib.hid hv
  have HF := Lib.hid hf
  clear hv hf
  go_enter Tryz.func8, Tryz.ntmps8
  go_wp2_with fail
  refine (spelled_any fs _ _ HF.out HV.out).mono ?_
  rintro e w1 ⟨rfl, hS, hb1⟩
  obtain ⟨v0, hlook, own0, _⟩ := hS.look s.data.toList (by unfold maxLen; simp; omega) (by have := spell_len fs HF.out; unfold maxLen; omega)
  rw [strV_data] at hlook
  have HB := Lib.hid hb1
  have HO := Lib.hid own0
  clear hS hb1 own0
  dsimp only
  go_wp2
  go_ret
  exact ⟨v0, rfl, HO.out, HB.out⟩

/-- A ROW's LENGTH, AS ITS SLICE SAYS IT. -/
theorem own_slice {w : World} {base n : Nat} {e : TypeId} {size : Nat} {v : Value} {xs : List Value} (h : w.ownsRow base e size v n xs) : ∃ a c, v = .slice a n c := by
  rcases h.2 with ⟨rfl, h0⟩ | ⟨g, cap, cur, rfl, _⟩
  · exact ⟨_, _, by rw [h0]⟩
  · exact ⟨_, _, rfl⟩

/-- WHAT spell.Free GIVES. -/
def freeL (fs : List Fil) (s : List UInt8) : Bool := alikeL s s && (getP (spellL fs) s).isEmpty

set_option maxHeartbeats 1000000 in
theorem free_any (fs : List Fil) (v : Value) (s : ByteArray) (w : World) (hf : Few fs) (hv : FilesAt w v fs) (hs : s.size ≤ 140737488351232) :
    Calls Tryz.prog 14 #[.string s, v] w fun e w' => e = .returned (.bool (freeL fs s.data.toList)) ∧ Below w.heap.size w w' := by
  obtain ⟨a, c, rfl, hv'⟩ := id hv
  clear hv'
  have HV := Lib.hid hv
  have HF := Lib.hid hf
  clear hv hf
  go_enter Tryz.func14, Tryz.ntmps14
  cases hal : alikeL s.data.toList s.data.toList with
  | false =>
    have HA := Lib.hid hal
    clear hal
    go_wp2_with fail
    refine (alike_any s s _ hs hs).mono ?_
    rintro e w1 ⟨rfl, hb1⟩
    rw [HA.out]
    dsimp only
    go_wp2
    go_ret
    exact ⟨ret_bool (by rw [freeL, HA.out, Bool.false_and]), hb1⟩
  | true =>
    have HA := Lib.hid hal
    clear hal
    go_wp2_with fail
    refine (alike_any s s _ hs hs).mono ?_
    rintro e w1 ⟨rfl, hb1⟩
    rw [HA.out]
    dsimp only
    have HV1 := Lib.hid (HV.out.later hb1)
    have HB1 := Lib.hid hb1
    clear hb1
    go_wp2_with fail
    refine (spelled_any fs _ _ HF.out HV1.out).mono ?_
    rintro e w2 ⟨rfl, hS, hb2⟩
    obtain ⟨v0, hlook, own0, _⟩ := hS.look s.data.toList (by unfold maxLen; simp; omega) (by have := spell_len fs HF.out; unfold maxLen; omega)
    rw [strV_data] at hlook
    obtain ⟨a0, c0, rfl⟩ := own_slice own0
    have HB := Lib.hid (Below.next HB1.out (Nat.le_refl _) hb2)
    obtain ⟨n, hn⟩ : ∃ n, (getP (spellL fs) s.data.toList).length = n := ⟨_, rfl⟩
    rw [hn] at hlook
    have HN := Lib.hid hn
    clear hS hb2 own0 hn
    dsimp only
    go_wp2
    all_goals
      go_ret
      refine ⟨ret_bool ?_, HB.out⟩
      have hn := HN.out
      rw [freeL, HA.out, Bool.true_and]
      cases hg : getP (spellL fs) s.data.toList with
      | nil => simp_all
      | cons p r => simp_all; try omega

theorem clone_any (s : ByteArray) (w : World) (hs : s.size ≤ 281474976710656) : Calls Tryz.prog 19 #[.string s] w fun e w' => e = .returned (.string s) ∧ Below w.heap.size w w' := by
  go_enter Tryz.func19, Tryz.ntmps19
  go_wp2_with (go_at_call 44; refine (Tryz.stringslite_Clone s _ hs).mono ?_; rintro e w1 ⟨rfl, hb1⟩)
  go_ret
  exact ⟨rfl, hb1⟩
end Go.Proofs.YtbbibngagdpdcaaGreatDoor
