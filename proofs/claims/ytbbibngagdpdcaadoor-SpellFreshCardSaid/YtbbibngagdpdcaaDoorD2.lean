import Derived.Test.YtbbibngagdpdcaaDoorD1
namespace Go.Proofs.YtbbibngagdpdcaaDoor
open Go Go.RowKit
open Go.Shelf
open Go.ChangeMaps Go.MapKept

theorem Tryd.infoPlc : (Tryd.prog.info? 56).map (fun i => (i.zero, i.size, i.bytes)) = some (some (.agg #[.int .i64 0, .int .i64 0]), 2, 16) := by kernel_rfl

theorem plc_flat (ps : List Plc) (p : Plc) : (ps ++ [p]).flatMap placeCells = ps.flatMap placeCells ++ placeCells p := by simp

set_option maxHeartbeats 4000000 in
set_option maxRecDepth 100000 in
theorem spelled_any (fs : List Fil) (v : Value) (w : World) (hf : Few fs) (hv : FilesAt w v fs) :
    Calls Tryd.prog 16 #[v] w fun e w' => e = .returned (.map (some w.heap.size)) ∧ SpellAt w' w.heap.size (w.heap.size + 1) (spellL fs) ∧ Below w.heap.size w w' := by
  have hmm := @run_makeMap Tryd.prog
  obtain ⟨i0, hi0, hz0, hz1, hz2⟩ := info_parts Tryd.infoPlc
  obtain ⟨a, c, rfl, hv'⟩ := hv
  have HV := Lib.hid hv'
  have HF := Lib.hid hf
  have hn := hf.many
  clear hv' hf
  go_enter Tryd.func16, Tryd.ntmps16
  go_wp2
  have HB : Hid (Below w.heap.size w (w.alloc (.map #[] 0))) := (Below.refl _ w).alloc (Nat.le_refl _) _
  have HS : Hid (SpellAt (w.alloc (.map #[] 0)) w.heap.size (w.heap.size + 1) []) := SpellAt.made w
  go_loopg [12] fs.length (fun g s12 wr => ∃ (i : Nat) (F : Spell), s12 = .int .i64 i ∧ i ≤ fs.length ∧ fs.length - i ≤ g ∧ Hid (SpellAt wr w.heap.size (w.heap.size + 1) F) ∧ Hid (Below w.heap.size w wr) ∧ Hid (spellFrom F i (fs.drop i) = spellL fs) ∧ Hid (∀ k, (getP F k).length ≤ 100001 * i) ∧ Hid (F.length ≤ 100001 * i))
  case atStart => exact ⟨0, [], rfl, Nat.zero_le _, Nat.le_refl _, HS, HB, rfl, fun _ => Nat.zero_le _, Nat.zero_le _⟩
  case round =>
    obtain ⟨i, F, rfl, hi, hg, hS, hB, hR, hG, hL⟩ := hrel
    clear HS HB
    by_cases hlt : i < fs.length
    · rcases HV.out with h0 | ⟨b, off, ha, hb, hc⟩
      · subst h0; simp at hlt
      obtain ⟨f, hfi⟩ : ∃ f, fs[i] = f := ⟨_, rfl⟩
      obtain ⟨c0, c1⟩ := hc i f (by rw [List.getElem?_eq_getElem hlt, hfi])
      have e0 := (hB.out.cell (p := ⟨b, off + i * 2, none⟩) hb).trans c0
      have e1 := (hB.out.cell (p := ⟨b, off + i * 2 + 1, none⟩) hb).trans c1
      subst ha
      have hfs : f.2.size ≤ 100000 := HF.out.long f (by rw [← hfi]; exact List.getElem_mem _)
      have HFI := Lib.hid hfi
      clear c0 c1 hc hfi
      go_wp2_with (go_at_call 31; refine (names_any _ _ (by omega)).mono ?_; rintro e w2 ⟨g2, cap, rfl, hown, hb2⟩)
      have hal : Below wr.heap.size wr (wr.alloc (.cells #[.string f.1, .string f.2] 29)) := (Below.refl _ _).alloc (Nat.le_refl _) _
      have hfile : w2.heap[wr.heap.size]? = some (.cells #[.string f.1, .string f.2] 29 (0, 0)) := (hb2.block wr.heap.size (by simp)).trans (heap_alloc_new wr _)
      have hI0 : Hid (InnerInv w w2 wr.heap.size g2 cap f (namesL f.2.data.toList) F) :=
        ⟨(hS.out.later hal).later hb2, hfile, ownsRow_base hown (by have := hB.out.size; simp; omega), Below.next (Below.next hB.out (Nat.le_refl _) hal) (Nat.le_refl _) hb2⟩
      have hR0 := hR.out
      rw [List.drop_eq_getElem_cons hlt, HFI.out, spellFrom] at hR0
      have htl := names_len f.2.data.toList
      have hlf : f.2.data.toList.length = f.2.size := by simp
      rw [hlf] at htl
      have hts := names_sub f.2.data.toList
      rw [hlf] at hts
      obtain ⟨ts, hTS⟩ : ∃ ts, namesL f.2.data.toList = ts := ⟨_, rfl⟩
      rw [hTS] at hI0 hR0 htl hts ⊢
      have HR0 := Lib.hid hR0
      have HTS := Lib.hid hts
      obtain ⟨fb, hfb⟩ : ∃ fb, fb = wr.heap.size := ⟨_, rfl⟩
      rw [← hfb] at hI0 ⊢
      have hS0 : Hid (∀ k, (getP F k).length ≤ 100001 * i + 0) := hG.out
      have hL0 : Hid (F.length ≤ 100001 * i + 0) := hL.out
      clear hal hfile hown hb2 hS hB hR hR0 hts hlf hTS hfb e0 e1 hG hL
      obtain ⟨wo, rfl⟩ : ∃ wo : World, wo = wr := ⟨_, rfl⟩
      go_loopg [21] ts.length (fun g3 s21 wi => ∃ (k : Nat) (G : Spell), s21 = .int .i64 k ∧ k ≤ ts.length ∧ ts.length - k ≤ g3 ∧ Hid (InnerInv w wi fb g2 cap f ts G) ∧ Hid (spellFrom (fileSpell G i f.2.data.toList (ts.drop k)) (i + 1) (fs.drop (i + 1)) = spellL fs) ∧ Hid (∀ k', (getP G k').length ≤ 100001 * i + k) ∧ Hid (G.length ≤ 100001 * i + k))
      case atStart => exact ⟨0, F, rfl, Nat.zero_le _, Nat.le_refl _, hI0, HR0.out, hS0, hL0⟩
      case round =>
        obtain ⟨k, G, rfl, hk, hg3, hI, hR, hG, hL⟩ := hrel
        clear hI0 HR0 hS0 hL0
        by_cases hkl : k < ts.length
        · obtain ⟨t, ht⟩ : ∃ t, ts[k] = t := ⟨_, rfl⟩
          obtain ⟨d0, d1, d2⟩ := tok_cells hI.out.toks k hkl
          rw [ht] at d0 d1 d2
          obtain ⟨hb1, hb2⟩ := HTS.out t (by rw [← ht]; exact List.getElem_mem _)
          have hfl : fb < wr.heap.size := (Array.getElem?_eq_some_iff.1 hI.out.file).1
          have q0 : (wr.alloc (.cells #[.int .i64 t.1, .int .i64 (t.2.1 : Nat), .int .i64 (t.2.2 : Nat)] 54)).cell? ⟨fb, 1, none⟩ = some (.string f.2) := by
            rw [cell_of_row _ _ _ _ _ _ ((Below.heap_alloc _ _ _ hfl).trans hI.out.file)]; rfl
          have hsub : (sub f.2.data.toList t.2.1 t.2.2).length ≤ 100000 := by
            rw [sub, List.length_take, List.length_drop]
            have : f.2.data.toList.length = f.2.size := by simp
            omega
          obtain ⟨v0, hlook, own0, hback⟩ := (hI.out.spell.later ((Below.refl _ _).alloc (Nat.le_refl _) (.cells #[.int .i64 t.1, .int .i64 (t.2.1 : Nat), .int .i64 (t.2.2 : Nat)] 54))).look (sub f.2.data.toList t.2.1 t.2.2) (by unfold maxLen; omega) (by have := hL.out; unfold maxLen; omega)
          rw [strV_ext] at hlook hback
          have hcnt := hG.out (sub f.2.data.toList t.2.1 t.2.2)
          have HT := Lib.hid ht
          have HO := Lib.hid own0
          have HBK := Lib.hid hback
          clear ht own0 hback hsub
          go_wp2_with (at_builtin; refine wpList_append_own_at _ rfl (.tmp 36) (.tmp 41) 35 rfl (w.heap.size + 1) 56 i0 (.agg #[.int .i64 0, .int .i64 0]) 2 16 Tryd.underlying35 hi0 hz0 hz1 hz2 rfl (by decide) v0 _ _ rfl (HO.out.alloc _) ⟨wr.heap.size + 1, 0, none⟩ 1 1 (placeCells (i, t.2.1)) rfl rfl ?p1 ?p2 ?p3 ?p4 ?p5 ?_)
          case p1 =>
            intro j u hj
            have e : ((⟨wr.heap.size + 1, 0, none⟩ : Addr).add j) = ⟨wr.heap.size + 1, j, none⟩ := by unfold Addr.add; split <;> simp_all
            rw [e, new_cell _ _ _ _ _ (by simp)]
            match j, hj with
            | 0, hj | 1, hj => simpa [placeCells] using hj
          case p2 =>
            intro u hu
            simp [placeCells] at hu
            rcases hu with rfl | rfl <;> rfl
          case p3 => unfold maxLen; omega
          case p4 => omega
          case p5 => have := hI.out.below.size; simp; omega
          intro v' w3 hown' hgrow _ hloc
          rw [← plc_flat] at hown'
          obtain ⟨w4, hupd, hsp, hg4⟩ := HBK.out w3 v' (i, t.2.1) ((World.grownBy_alloc _ _ _).trans hgrow) hown' (hloc.imp id (fun h => Or.inr (by rw [h]; simp)))
          have hI4 : Hid (InnerInv w w4 fb g2 cap f ts (putP G (sub f.2.data.toList t.2.1 t.2.2) (i, t.2.1))) := hI.out.step _ _ HO.out hgrow hsp hg4
          have hG4 : Hid (∀ k', (getP (putP G (sub f.2.data.toList t.2.1 t.2.2) (i, t.2.1)) k').length ≤ 100001 * i + (k + 1)) := fun k' => Nat.le_trans (getP_put_len _ _ _ _) (by have := hG.out k'; omega)
          have hL4 : Hid ((putP G (sub f.2.data.toList t.2.1 t.2.2) (i, t.2.1)).length ≤ 100001 * i + (k + 1)) := Nat.le_trans (putP_len _ _ _) (by have := hL.out; omega)
          have hR4 := hR.out
          rw [List.drop_eq_getElem_cons hkl, HT.out, fileSpell, List.foldl_cons] at hR4
          have HR4 := Lib.hid hR4
          clear hown' hgrow hloc hsp hg4 HBK HO hI hG hL hR hR4 hlook d0 d1 d2 q0 hcnt
          go_wp2
          go_roundg (ts.length - (k + 1))
          case measure => omega
          case rel => exact ⟨k + 1, _, by go_num, by omega, Nat.le_refl _, hI4, HR4.out, hG4, hL4⟩
        · obtain rfl : k = ts.length := by omega
          have hR4 := hR.out
          rw [List.drop_length, fileSpell, List.foldl_nil] at hR4
          have HR4 := Lib.hid hR4
          clear hR hR4
          go_wp2
          go_roundg (fs.length - (i + 1))
          case measure => omega
          case rel => exact ⟨i + 1, G, by go_num, by omega, Nat.le_refl _, hI.out.spell, hI.out.below, HR4.out, fun k' => Nat.le_trans (hG.out k') (by omega), Nat.le_trans hL.out (by omega)⟩
    · obtain rfl : i = fs.length := by omega
      have hR4 := hR.out
      rw [List.drop_length, spellFrom] at hR4
      have HR4 := Lib.hid hR4
      clear hR hR4
      go_wp2
      go_ret
      rw [← HR4.out]
      exact ⟨rfl, hS.out, hB.out⟩
end Go.Proofs.YtbbibngagdpdcaaDoor
