/-
  PROVED HERE: a part of the proof of the card 'SpellTellsCardSaid': what functions of the program, or of the document's packages, that SpellTells reaches compute (texts H6). CONDITIONS: each theorem's own.
-/
import Derived.Test.YtbbibngagdpdcaaGreatDoorM24
namespace Go.Proofs.YtbbibngagdpdcaaGreatDoor
open Go Go.RowKit
open Go.Shelf
open Go.ChangeMaps Go.MapKept

def pieceOf (l : List UInt8) (t : Tok) : List UInt8 := sub l t.2.1 t.2.2

theorem piece_take (l : List UInt8) (ts : List Tok) (k : Nat) (h : k < ts.length) : (ts.take (k + 1)).map (pieceOf l) = (ts.take k).map (pieceOf l) ++ [pieceOf l ts[k]] := by
  rw [List.take_succ_eq_append_getElem h, List.map_append]
  rfl

theorem files_take (fs : List Fil) (i : Nat) (h : i < fs.length) : ((fs.take (i + 1)).flatMap fun f => namesOf f.2) = ((fs.take i).flatMap fun f => namesOf f.2) ++ namesOf fs[i].2 := by
  rw [List.take_succ_eq_append_getElem h, List.flatMap_append]
  simp

set_option maxHeartbeats 4000000 in
set_option maxRecDepth 100000 in
theorem rTaken_any (fs : List Fil) (v : Value) (w : World) (hf : Few fs) (hv : FilesAt w v fs) :
    Calls Tryz.prog 13 #[v] w fun e w' => ∃ v', e = .returned v' ∧ w'.ownsRow w.heap.size 9 1 v' (takenL fs).length ((takenL fs).map strV) ∧ Below w.heap.size w w' := by
  obtain ⟨i0, hi0, hz0, hz1, hz2⟩ := info_parts Tryz.infoStr
  obtain ⟨a, c, rfl, hv'⟩ := id hv
  have HV := Lib.hid hv'
  have HF := Lib.hid hf
  have hn := hf.many
  clear hv hv' hf
  go_enter Tryz.func13, Tryz.ntmps13
  go_wp2
  go_loopg [3, 4] fs.length (fun g s3 s4 wr => ∃ (i : Nat) (out : List (List UInt8)), s4 = .int .i64 i ∧ i ≤ fs.length ∧ fs.length - i ≤ g ∧ out.length ≤ 100001 * i ∧ Hid (wr.ownsRow w.heap.size 9 1 s3 out.length (out.map strV)) ∧ Hid (Below w.heap.size w wr) ∧ Hid (IsSet out ((fs.take i).flatMap fun f => namesOf f.2)))
  case atStart => exact ⟨0, [], rfl, Nat.zero_le _, Nat.le_refl _, Nat.zero_le _, World.ownsRow_nil _ _ _ _, Below.refl _ _, IsSet.nil⟩
  case round =>
    obtain ⟨i, out, rfl, hi, hg, hpl, hO, hB, hP⟩ := hrel
    by_cases hlt : i < fs.length
    · rcases HV.out with h0 | ⟨b, off, ha, hb, hc⟩
      · subst h0; simp at hlt
      subst ha
      obtain ⟨f, hfi⟩ : ∃ f, fs[i] = f := ⟨_, rfl⟩
      obtain ⟨c0, c1⟩ := hc i f (by rw [List.getElem?_eq_getElem hlt, hfi])
      have e1 := (hB.out.cell (p := ⟨b, off + i * 2 + 1, none⟩) hb).trans c1
      have hfs : f.2.size ≤ 100000 := HF.out.long f (by rw [← hfi]; exact List.getElem_mem _)
      have HC1 := Lib.hid c1
      have hft := files_take fs i hlt
      rw [hfi] at hft
      have htl := names_len f.2.data.toList
      have hts := names_sub f.2.data.toList
      have hlf : f.2.data.toList.length = f.2.size := by simp
      rw [hlf] at htl hts
      have hnm := rNames_any f.2 wr (by omega)
      have hno : namesOf f.2 = (namesL f.2.data.toList).map (pieceOf f.2.data.toList) := rfl
      obtain ⟨ts, hTS⟩ : ∃ ts, namesL f.2.data.toList = ts := ⟨_, rfl⟩
      rw [hTS] at htl hts hnm hno
      rw [hno] at hft
      have HFT := Lib.hid hft
      have HTS := Lib.hid hts
      have HNM := Lib.hid hnm
      have hiz : (i : Int) < (fs.length : Int) := by omega
      clear c0 c1 hc hfi hts hnm hTS hlf hft hno
      go_wp2_with fail
      refine HNM.out.mono ?_
      rintro e w2 ⟨v2, rfl, hown2, hb2⟩
      obtain ⟨a2, c2, rfl⟩ := own_slice hown2
      have HT2 := Lib.hid hown2
      have hO2 := Lib.hid (own_later hO.out hb2)
      have hB2 := Lib.hid (Below.next hB.out (Nat.le_refl _) hb2)
      have HWS := Lib.hid hB.out.size
      clear hown2 hb2 hO hB HNM e1
      obtain ⟨wo, rfl⟩ : ∃ wo : World, wo = wr := ⟨_, rfl⟩
      dsimp only
      go_wp2
      go_loopg [3, 6] ts.length (fun g2 s3 s6 wi => ∃ (k : Nat) (out : List (List UInt8)), s6 = .int .i64 k ∧ k ≤ ts.length ∧ ts.length - k ≤ g2 ∧ out.length ≤ 100001 * i + k ∧ Hid (wi.ownsRow w.heap.size 9 1 s3 out.length (out.map strV)) ∧ Hid (Below w.heap.size w wi) ∧
        Hid (wi.ownsRow wo.heap.size 51 3 (.slice a2 ts.length c2) ts.length (ts.flatMap tokCells)) ∧ Hid (IsSet out (((fs.take i).flatMap fun f => namesOf f.2) ++ (ts.take k).map (pieceOf f.2.data.toList))))
      case atStart => exact ⟨0, out, rfl, Nat.zero_le _, Nat.le_refl _, hpl, hO2, hB2, HT2, by simpa [Hid] using hP.out⟩
      case round =>
        obtain ⟨k, out, rfl, hk, hg2, hpl2, hOi, hBi, hTi, hPi⟩ := hrel
        clear hO2 hB2 HT2 hP hpl
        by_cases hkl : k < ts.length
        · obtain ⟨t, ht⟩ : ∃ t, ts[k] = t := ⟨_, rfl⟩
          have hpt := piece_take f.2.data.toList ts k hkl
          rcases hTi.out.2 with ⟨_, h0⟩ | ⟨g1, cap, cur, he, _⟩
          · omega
          cases he
          obtain ⟨d0, d1, d2⟩ := tok_cells hTi.out k hkl
          rw [ht] at d0 d1 d2 hpt
          obtain ⟨hb1, hb2⟩ := HTS.out t (by rw [← ht]; exact List.getElem_mem _)
          have e1 := (hBi.out.cell (p := ⟨b, off + i * 2 + 1, none⟩) hb).trans HC1.out
          have hkz : (k : Int) < (ts.length : Int) := by omega
          have hb1z : (t.2.1 : Int) ≤ (t.2.2 : Int) := by omega
          have hb2z : (t.2.2 : Int) ≤ (f.2.size : Int) := by omega
          have HPT := Lib.hid hpt
          obtain ⟨y, hy⟩ : ∃ y, f.2.extract t.2.1 t.2.2 = y := ⟨_, rfl⟩
          have hyd : y.data.toList = pieceOf f.2.data.toList t := by rw [← hy, Lib.extract_data]; rfl
          have HYD := Lib.hid hyd
          clear ht hpt hyd
          go_wp2
          go_quiet (fail)
          have hO4 := Lib.hid (fun nq => own_later hOi.out (below_draw0 wr nq))
          clear e1 d0 d1 d2
          go_wp2_with fail
          by_cases hin : y.data.toList ∈ out
          · refine (in_to true out _ y _ (strs_own (hO4.out _) rfl) (by omega) (by simpa using hin)).mono ?_
            rintro e w' ⟨rfl, rfl⟩
            dsimp only
            go_wp2
            go_roundg (ts.length - (k + 1))
            case measure => omega
            case rel =>
              refine ⟨k + 1, out, by go_num, by omega, Nat.le_refl _, by omega, hO4.out _, below_draws hBi.out _, own_later hTi.out (below_draw0 _ _), ?_⟩
              rw [Hid, HPT.out, ← List.append_assoc, ← HYD.out]
              exact hPi.out.again hin
          · refine (in_to false out _ y _ (strs_own (hO4.out _) rfl) (by omega) (by simpa using hin)).mono ?_
            rintro e w' ⟨rfl, rfl⟩
            dsimp only
            rcases hOi.out.2 with ⟨hnil, h0⟩ | ⟨g3, cap3, cur3, he3, _⟩
            · have hout : out = [] := List.eq_nil_of_length_eq_zero h0
              subst hout
              subst hnil
              obtain ⟨wq, hwq⟩ : ∃ wq, wq = wr.drewN nq := ⟨_, rfl⟩
              have hB6 : Hid (Below w.heap.size w wq) := by rw [hwq]; exact below_draws hBi.out nq
              have hT6 : Hid (wq.ownsRow wo.heap.size 51 3 (.slice (some ⟨g1, 0, none⟩) ts.length c2) ts.length (ts.flatMap tokCells)) := by rw [hwq]; exact own_later hTi.out (below_draw0 wr nq)
              rw [← hwq]
              clear hwq hOi hBi hTi hO4
              obtain ⟨wi0, rfl⟩ : ∃ x : World, x = wr := ⟨_, rfl⟩
              go_wp2
              go_loopg [8] 0 (fun g4 s8 wz => s8 = .int .i64 0 ∧ wz = wq)
              case atStart => exact ⟨rfl, rfl⟩
              case round =>
                obtain ⟨rfl, rfl⟩ := hrel
                go_wp2_with (at_builtin; refine wpList_append_strs _ rfl (.tmp 62) (.tmp 65) rfl wr.heap.size _ 0 [] rfl (empty_rowS wr) [] _ rfl ⟨_, _, rfl, .inl rfl⟩ (.inl rfl) (by decide) (by simp) ?_)
                intro v4 w4 hown4 hg4
                have hs4 : wr.heap.size ≤ w4.heap.size := by have := hg4.size; simp at this; omega
                have hT7 := (hT6.out.alloc (.cells #[] 9)).kept hg4 (Or.inr (by intro e; have e2 : g1 = wr.heap.size := (by simpa [Value.ownBlock] using e); have := (hT6.out.lt g1 rfl).2; omega))
                have hB7 : Below w.heap.size w w4 := (hB6.out.alloc hB6.out.size _).grown hg4 (by have := hB6.out.size; simp; omega) (fun b hb => by cases hb; exact hB6.out.size)
                have HT7 := Lib.hid hT7
                have HB7 := Lib.hid hB7
                have HS4 := Lib.hid hs4
                clear hT7 hB7 hg4 hs4
                go_wp2_with (at_builtin; refine wpList_append_strs _ rfl (.tmp 67) (.tmp 69) rfl wr.heap.size _ _ _ rfl (hown4.alloc _) [y.data.toList] _ rfl (strsAt_one w4 y) (.inr ⟨_, _, _, rfl⟩) (by simp) (by have := HS4.out; simp; omega) ?_)
                intro v5 w5 hown5 hg5
                have hs5 : wr.heap.size ≤ w5.heap.size := by have h1 := hg5.size; have h2 := HS4.out; simp at h1; omega
                have hne5 : ∀ b, v4.ownBlock = some b → wr.heap.size ≤ b := fun b hb => (hown4.lt b hb).1
                have hT8 := (HT7.out.alloc (.cells #[.string y] 9)).kept hg5 (Or.inr (by intro e; have := hne5 g1 e.symm; have := (hT6.out.lt g1 rfl).2; omega))
                have hB8 : Below w.heap.size w w5 := (HB7.out.alloc HB7.out.size _).grown hg5 (by have := HB7.out.size; simp; omega) (fun b hb => Nat.le_trans hB6.out.size (hne5 b hb))
                have HT8 := Lib.hid hT8
                have HB8 := Lib.hid hB8
                have HS5 := Lib.hid hs5
                clear hT8 hB8 hg5 hs5 HT7 HB7 hne5 hown4
                go_wp2_with (at_builtin; refine wpList_append_strs _ rfl (.tmp 71) (.tmp 74) rfl wr.heap.size _ _ _ rfl hown5 [] _ rfl ⟨_, _, rfl, .inl rfl⟩ (.inl rfl) (by simp) HS5.out ?_)
                intro v6 w6 hown6 hg6
                have hne6 : ∀ b, v5.ownBlock = some b → wr.heap.size ≤ b := fun b hb => (hown5.lt b hb).1
                have hT9 := HT8.out.kept hg6 (Or.inr (by intro e; have := hne6 g1 e.symm; have := (hT6.out.lt g1 rfl).2; omega))
                have hB9 : Below w.heap.size w w6 := HB8.out.grown hg6 HB8.out.size (fun b hb => Nat.le_trans hB6.out.size (hne6 b hb))
                have hO9 : w6.ownsRow w.heap.size 9 1 v6 [y.data.toList].length ([y.data.toList].map strV) := by
                  have := ownsRow_base hown6 hB6.out.size
                  simpa using this
                have HO9 := Lib.hid hO9
                have HT9 := Lib.hid hT9
                have HB9 := Lib.hid hB9
                clear hO9 hT9 hB9 hg6 hown6 hown5 hne6 HT8 HB8
                go_wp2
                go_roundg (ts.length - (k + 1))
                case measure => omega
                case rel =>
                  refine ⟨k + 1, [y.data.toList], by go_num, by omega, Nat.le_refl _, by simp; omega, HO9, HB9, HT9, ?_⟩
                  rw [Hid, HPT.out, ← List.append_assoc, ← HYD.out]
                  have := hPi.out.insert hin 0 (by simp) (by simp)
                  simpa using this
            · subst he3
              obtain ⟨wq, hwq⟩ : ∃ wq, wq = wr.drewN nq := ⟨_, rfl⟩
              have hO6 : Hid (wq.ownsRow w.heap.size 9 1 (.slice (some ⟨g3, 0, none⟩) out.length cap3) out.length (out.map strV)) := by rw [hwq]; exact hO4.out nq
              have hB6 : Hid (Below w.heap.size w wq) := by rw [hwq]; exact below_draws hBi.out nq
              have hT6 : Hid (wq.ownsRow wo.heap.size 51 3 (.slice (some ⟨g1, 0, none⟩) ts.length c2) ts.length (ts.flatMap tokCells)) := by rw [hwq]; exact own_later hTi.out (below_draw0 wr nq)
              rw [← hwq]
              clear hwq hOi hBi hTi hO4
              obtain ⟨wi0, rfl⟩ : ∃ x : World, x = wr := ⟨_, rfl⟩
              go_wp2
              go_loopg [8] out.length (fun g4 s8 wz => ∃ at_ : Nat, s8 = .int .i64 at_ ∧ at_ ≤ out.length ∧ at_ ≤ g4 ∧ wz = wq ∧ Hid (∀ z ∈ out.drop at_, y.data.toList < z))
              case atStart => exact ⟨out.length, rfl, Nat.le_refl _, Nat.le_refl _, rfl, by simp [Hid]⟩
              case round =>
                obtain ⟨at_, rfl, hle, hg4, rfl, hhi⟩ := hrel
                have hlez : (at_ : Int) ≤ (out.length : Int) := by omega
                by_cases hpos : 0 < at_
                · obtain ⟨p, hp⟩ : ∃ p, at_ - 1 = p := ⟨_, rfl⟩
                  have hpl : p < out.length := by omega
                  obtain ⟨l', hl'⟩ : ∃ l, out[p] = l := ⟨_, rfl⟩
                  have e5 : wr.cell? ⟨g3, p, none⟩ = some (.string ⟨l'.toArray⟩) := by
                    rw [hO6.out.cellAt p (by omega)]
                    simp [hpl, hl', strV]
                  have hpz : (at_ : Int) - 1 = (p : Int) := by omega
                  have hplz : (p : Int) < (out.length : Int) := by omega
                  have hposz : (0 : Int) < (at_ : Int) := by omega
                  by_cases hgt : y.data.toList < l'
                  · have q1 : Op.bytesLess l' y.toList = false := by
                      rw [Go.Proofs.bytesLess_eq, decide_eq_false_iff_not, Lib.toList_data]
                      exact fun h => List.lt_irrefl _ (List.lt_trans h hgt)
                    have q2 : (l' == y.toList) = false := by
                      rw [beq_eq_false_iff_ne, Lib.toList_data]
                      rintro rfl
                      exact List.lt_irrefl _ hgt
                    have hhi2 : Hid (∀ z ∈ out.drop p, y.data.toList < z) := by
                      intro z hz
                      rw [List.drop_eq_getElem_cons hpl, hl', List.mem_cons] at hz
                      rcases hz with rfl | hz
                      · exact hgt
                      · exact hhi.out z (by rw [show at_ = p + 1 by omega]; exact hz)
                    clear hgt hl' hhi
                    go_wp2
                    go_roundg p
                    case measure => omega
                    case rel => exact ⟨p, congrArg (Value.int .i64) (by omega), by omega, Nat.le_refl _, rfl, hhi2⟩
                  · have hne : l' ≠ y.data.toList := fun e => hin (by rw [← e, ← hl']; exact List.getElem_mem _)
                    have hlt2 : l' < y.data.toList := Decidable.byContradiction fun h4 => hne (List.le_antisymm (List.not_lt.1 hgt) (List.not_lt.1 h4))
                    have q1 : Op.bytesLess l' y.toList = true := by
                      rw [Go.Proofs.bytesLess_eq, decide_eq_true_eq, Lib.toList_data]
                      exact hlt2
                    have hst : ∀ hp : at_ - 1 < out.length, 0 < at_ → ¬ y.data.toList < out[at_ - 1] := by
                      intro h1 _
                      simp only [hp, hl']
                      exact hgt
                    clear hgt hl' hne hlt2
                    have hlo := lower_all hPi.out hin at_ hle hst
                    have HLO := Lib.hid hlo
                    clear hlo hst
                    go_wp2_with (at_builtin; refine wpList_append_strs _ rfl (.tmp 62) (.tmp 65) rfl wr.heap.size _ 0 [] rfl (empty_rowS wr) (out.take at_) _ rfl (own_head ((hO6.out).alloc _) at_ hle _) (.inr ⟨_, _, _, rfl⟩) (by rw [List.length_take]; omega) (by simp) ?_)
                    intro v4 w4 hown4 hg4
                    have hg3 : g3 < wr.heap.size := (hO6.out.lt g3 rfl).2
                    have hs4 : wr.heap.size ≤ w4.heap.size := by have := hg4.size; simp at this; omega
                    have hO7 := (hO6.out.alloc (.cells #[] 9)).kept hg4 (Or.inr (by intro e; have e2 : g3 = wr.heap.size := (by simpa [Value.ownBlock] using e); omega))
                    have hT7 := (hT6.out.alloc (.cells #[] 9)).kept hg4 (Or.inr (by intro e; have e2 : g1 = wr.heap.size := (by simpa [Value.ownBlock] using e); have := (hT6.out.lt g1 rfl).2; omega))
                    have hB7 : Below w.heap.size w w4 := (hB6.out.alloc hB6.out.size _).grown hg4 (by have := hB6.out.size; simp; omega) (fun b hb => by cases hb; exact hB6.out.size)
                    have HO7 := Lib.hid hO7
                    have HT7 := Lib.hid hT7
                    have HB7 := Lib.hid hB7
                    have HS4 := Lib.hid hs4
                    clear hO7 hT7 hB7 hg4 hs4
                    go_wp2_with (at_builtin; refine wpList_append_strs _ rfl (.tmp 67) (.tmp 69) rfl wr.heap.size _ _ _ rfl (hown4.alloc _) [y.data.toList] _ rfl (strsAt_one w4 y) (.inr ⟨_, _, _, rfl⟩) (by simp; omega) (by have := HS4.out; simp; omega) ?_)
                    intro v5 w5 hown5 hg5
                    have hs5 : wr.heap.size ≤ w5.heap.size := by have h1 := hg5.size; have h2 := HS4.out; simp at h1; omega
                    have hne5 : ∀ b, v4.ownBlock = some b → wr.heap.size ≤ b := fun b hb => (hown4.lt b hb).1
                    have hO8 := (HO7.out.alloc (.cells #[.string y] 9)).kept hg5 (Or.inr (by intro e; have := hne5 g3 e.symm; omega))
                    have hT8 := (HT7.out.alloc (.cells #[.string y] 9)).kept hg5 (Or.inr (by intro e; have := hne5 g1 e.symm; have := (hT6.out.lt g1 rfl).2; omega))
                    have hB8 : Below w.heap.size w w5 := (HB7.out.alloc HB7.out.size _).grown hg5 (by have := HB7.out.size; simp; omega) (fun b hb => Nat.le_trans hB6.out.size (hne5 b hb))
                    have HO8 := Lib.hid hO8
                    have HT8 := Lib.hid hT8
                    have HB8 := Lib.hid hB8
                    have HS5 := Lib.hid hs5
                    clear hO8 hT8 hB8 hg5 hs5 HO7 HT7 HB7 hne5 hown4
                    go_wp2_with (at_builtin; refine wpList_append_strs _ rfl (.tmp 71) (.tmp 74) rfl wr.heap.size _ _ _ rfl hown5 (out.drop at_) _ rfl (own_rest HO8.out at_ hle _).1 (.inr (own_rest HO8.out at_ hle _).2) (by rw [List.length_drop]; omega) HS5.out ?_)
                    all_goals
                      intro v6 w6 hown6 hg6
                      have hne6 : ∀ b, v5.ownBlock = some b → wr.heap.size ≤ b := fun b hb => (hown5.lt b hb).1
                      have hT9 := HT8.out.kept hg6 (Or.inr (by intro e; have := hne6 g1 e.symm; have := (hT6.out.lt g1 rfl).2; omega))
                      have hB9 : Below w.heap.size w w6 := HB8.out.grown hg6 HB8.out.size (fun b hb => Nat.le_trans hB6.out.size (hne6 b hb))
                      have hll : (out.take at_ ++ [y.data.toList] ++ out.drop at_).length = at_ + 1 + (out.length - at_) := by simp; omega
                      have hO9 : w6.ownsRow w.heap.size 9 1 v6 (out.take at_ ++ [y.data.toList] ++ out.drop at_).length ((out.take at_ ++ [y.data.toList] ++ out.drop at_).map strV) := by
                        rw [hll]
                        have := ownsRow_base hown6 hB6.out.size
                        simpa using this
                      have HO9 := Lib.hid hO9
                      have HT9 := Lib.hid hT9
                      have HB9 := Lib.hid hB9
                      clear hO9 hT9 hB9 hg6 hown6 hown5 hne6 HO8 HT8 HB8
                      go_wp2
                      go_roundg (ts.length - (k + 1))
                      case measure => omega
                      case rel =>
                        refine ⟨k + 1, out.take at_ ++ [y.data.toList] ++ out.drop at_, by go_num, by omega, Nat.le_refl _, by rw [hll]; omega, HO9, HB9, HT9, ?_⟩
                        rw [Hid, HPT.out, ← List.append_assoc, ← HYD.out]
                        exact hPi.out.insert hin at_ hhi.out HLO.out
                · have hst : ∀ hp : at_ - 1 < out.length, 0 < at_ → ¬ y.data.toList < out[at_ - 1] := fun _ h => absurd h hpos
                  have hposz : ¬ (0 : Int) < (at_ : Int) := by omega
                  have hlo := lower_all hPi.out hin at_ hle hst
                  have HLO := Lib.hid hlo
                  clear hlo hst
                  go_wp2_with (at_builtin; refine wpList_append_strs _ rfl (.tmp 62) (.tmp 65) rfl wr.heap.size _ 0 [] rfl (empty_rowS wr) (out.take at_) _ rfl (own_head ((hO6.out).alloc _) at_ hle _) (.inr ⟨_, _, _, rfl⟩) (by rw [List.length_take]; omega) (by simp) ?_)
                  intro v4 w4 hown4 hg4
                  have hg3 : g3 < wr.heap.size := (hO6.out.lt g3 rfl).2
                  have hs4 : wr.heap.size ≤ w4.heap.size := by have := hg4.size; simp at this; omega
                  have hO7 := (hO6.out.alloc (.cells #[] 9)).kept hg4 (Or.inr (by intro e; have e2 : g3 = wr.heap.size := (by simpa [Value.ownBlock] using e); omega))
                  have hT7 := (hT6.out.alloc (.cells #[] 9)).kept hg4 (Or.inr (by intro e; have e2 : g1 = wr.heap.size := (by simpa [Value.ownBlock] using e); have := (hT6.out.lt g1 rfl).2; omega))
                  have hB7 : Below w.heap.size w w4 := (hB6.out.alloc hB6.out.size _).grown hg4 (by have := hB6.out.size; simp; omega) (fun b hb => by cases hb; exact hB6.out.size)
                  have HO7 := Lib.hid hO7
                  have HT7 := Lib.hid hT7
                  have HB7 := Lib.hid hB7
                  have HS4 := Lib.hid hs4
                  clear hO7 hT7 hB7 hg4 hs4
                  go_wp2_with (at_builtin; refine wpList_append_strs _ rfl (.tmp 67) (.tmp 69) rfl wr.heap.size _ _ _ rfl (hown4.alloc _) [y.data.toList] _ rfl (strsAt_one w4 y) (.inr ⟨_, _, _, rfl⟩) (by simp; omega) (by have := HS4.out; simp; omega) ?_)
                  intro v5 w5 hown5 hg5
                  have hs5 : wr.heap.size ≤ w5.heap.size := by have h1 := hg5.size; have h2 := HS4.out; simp at h1; omega
                  have hne5 : ∀ b, v4.ownBlock = some b → wr.heap.size ≤ b := fun b hb => (hown4.lt b hb).1
                  have hO8 := (HO7.out.alloc (.cells #[.string y] 9)).kept hg5 (Or.inr (by intro e; have := hne5 g3 e.symm; omega))
                  have hT8 := (HT7.out.alloc (.cells #[.string y] 9)).kept hg5 (Or.inr (by intro e; have := hne5 g1 e.symm; have := (hT6.out.lt g1 rfl).2; omega))
                  have hB8 : Below w.heap.size w w5 := (HB7.out.alloc HB7.out.size _).grown hg5 (by have := HB7.out.size; simp; omega) (fun b hb => Nat.le_trans hB6.out.size (hne5 b hb))
                  have HO8 := Lib.hid hO8
                  have HT8 := Lib.hid hT8
                  have HB8 := Lib.hid hB8
                  have HS5 := Lib.hid hs5
                  clear hO8 hT8 hB8 hg5 hs5 HO7 HT7 HB7 hne5 hown4
                  go_wp2_with (at_builtin; refine wpList_append_strs _ rfl (.tmp 71) (.tmp 74) rfl wr.heap.size _ _ _ rfl hown5 (out.drop at_) _ rfl (own_rest HO8.out at_ hle _).1 (.inr (own_rest HO8.out at_ hle _).2) (by rw [List.length_drop]; omega) HS5.out ?_)
                  all_goals
                    intro v6 w6 hown6 hg6
                    have hne6 : ∀ b, v5.ownBlock = some b → wr.heap.size ≤ b := fun b hb => (hown5.lt b hb).1
                    have hT9 := HT8.out.kept hg6 (Or.inr (by intro e; have := hne6 g1 e.symm; have := (hT6.out.lt g1 rfl).2; omega))
                    have hB9 : Below w.heap.size w w6 := HB8.out.grown hg6 HB8.out.size (fun b hb => Nat.le_trans hB6.out.size (hne6 b hb))
                    have hll : (out.take at_ ++ [y.data.toList] ++ out.drop at_).length = at_ + 1 + (out.length - at_) := by simp; omega
                    have hO9 : w6.ownsRow w.heap.size 9 1 v6 (out.take at_ ++ [y.data.toList] ++ out.drop at_).length ((out.take at_ ++ [y.data.toList] ++ out.drop at_).map strV) := by
                      rw [hll]
                      have := ownsRow_base hown6 hB6.out.size
                      simpa using this
                    have HO9 := Lib.hid hO9
                    have HT9 := Lib.hid hT9
                    have HB9 := Lib.hid hB9
                    clear hO9 hT9 hB9 hg6 hown6 hown5 hne6 HO8 HT8 HB8
                    go_wp2
                    go_roundg (ts.length - (k + 1))
                    case measure => omega
                    case rel =>
                      refine ⟨k + 1, out.take at_ ++ [y.data.toList] ++ out.drop at_, by go_num, by omega, Nat.le_refl _, by rw [hll]; omega, HO9, HB9, HT9, ?_⟩
                      rw [Hid, HPT.out, ← List.append_assoc, ← HYD.out]
                      exact hPi.out.insert hin at_ hhi.out HLO.out
        · obtain rfl : k = ts.length := by omega
          have hkz : ¬ (ts.length : Int) < (ts.length : Int) := by omega
          go_wp2
          go_roundg (fs.length - (i + 1))
          case measure => omega
          case rel =>
            refine ⟨i + 1, out, by go_num, by omega, Nat.le_refl _, by omega, hOi, hBi, ?_⟩
            have := hPi.out
            rw [List.take_of_length_le (Nat.le_refl _)] at this
            rw [Hid, HFT.out]
            exact this
    · obtain rfl : i = fs.length := by omega
      have hiz : ¬ (fs.length : Int) < (fs.length : Int) := by omega
      have hp := hP.out
      rw [List.take_of_length_le (Nat.le_refl _)] at hp
      have hout := hp.eq_taken
      have HOUT := Lib.hid hout
      clear hout hp hP
      go_wp2
      go_ret
      rw [← HOUT.out]
      exact ⟨_, rfl, hO.out, hB.out⟩
end Go.Proofs.YtbbibngagdpdcaaGreatDoor
