/-
  PROVED HERE: a part of the proof of the card 'SpellTellsCardSaid': what functions of the program, or of the document's packages, that SpellTells reaches compute (texts H1, H2). CONDITIONS: each theorem's own.
-/
import Derived.Test.YtbbibngagdpdcaaGreatDoorM22
namespace Go.Proofs.YtbbibngagdpdcaaGreatDoor
open Go Go.RowKit
open Go.Shelf

theorem filter_take (ts : List Tok) (k : Nat) (h : k < ts.length) : (ts.take (k + 1)).filter namedT = (ts.take k).filter namedT ++ (if namedT ts[k] then [ts[k]] else []) := by
  rw [List.take_succ_eq_append_getElem h, List.filter_append]
  cases hn : namedT ts[k] <;> simp [hn]

theorem filter_le (ts : List Tok) (k : Nat) : ((ts.take k).filter namedT).length ≤ k := by
  have h1 := List.length_filter_le namedT (ts.take k)
  have h2 := List.length_take_le k ts
  omega

set_option maxHeartbeats 4000000 in
set_option maxRecDepth 100000 in
theorem rNames_any (s : ByteArray) (w : World) (hs : s.size ≤ 4000000000) :
    Calls Tryz.prog 23 #[.string s] w fun e w' => ∃ v, e = .returned v ∧ w'.ownsRow w.heap.size 51 3 v (namesL s.data.toList).length ((namesL s.data.toList).flatMap tokCells) ∧ Below w.heap.size w w' := by
  obtain ⟨i0, hi, hz0, hz1, hz2⟩ := info_parts Tryz.infoTok
  have hsl := (scan_ends s.data.toList (s.data.toList.length + 1) 0 (by omega) (Nat.zero_le _)).2
  have hsl' : (scanL s.data.toList).length ≤ 4000000001 := by
    have h1 : (scanL s.data.toList).length ≤ s.data.toList.length - 0 + 1 := hsl
    have h2 : s.data.toList.length = s.size := by simp
    omega
  have hsc := rScan_any s w hs
  unfold namesL
  obtain ⟨ts, hts⟩ : ∃ ts, scanL s.data.toList = ts := ⟨_, rfl⟩
  rw [hts] at hsc hsl' ⊢
  have HSC := Lib.hid hsc
  clear hsc hts hsl
  go_enter Tryz.func23, Tryz.ntmps23
  go_wp2_with fail
  refine HSC.out.mono ?_
  rintro e w1 ⟨v1, rfl, hown1, hb1⟩
  have HT := Lib.hid hown1
  have HB1 := Lib.hid hb1
  obtain ⟨a1, c1, rfl⟩ := own_slice hown1
  clear hown1 hb1 HSC
  dsimp only
  go_wp2
  go_loopg [3, 5] ts.length (fun g s3 s5 wr => ∃ k : Nat, s5 = .int .i64 k ∧ k ≤ ts.length ∧ ts.length - k ≤ g ∧ Hid (wr.ownsRow w1.heap.size 51 3 s3 ((ts.take k).filter namedT).length (((ts.take k).filter namedT).flatMap tokCells)) ∧ Hid (Below w1.heap.size w1 wr))
  case atStart => exact ⟨0, rfl, Nat.zero_le _, Nat.le_refl _, World.ownsRow_nil _ _ _ _, Below.refl _ _⟩
  case round =>
    obtain ⟨k, rfl, hk, hg, hO, hB⟩ := hrel
    by_cases hlt : k < ts.length
    · obtain ⟨t, ht⟩ : ∃ t, ts[k] = t := ⟨_, rfl⟩
      have hft := filter_take ts k hlt
      have hfl := filter_le ts k
      have htw := own_later HT.out hB.out
      rcases htw.2 with ⟨_, h0⟩ | ⟨g1, cap, cur, he, _⟩
      · omega
      cases he
      obtain ⟨d0, d1, d2⟩ := tok_cells htw k hlt
      rw [ht] at d0 d1 d2 hft
      have hkz : (k : Int) < (ts.length : Int) := by omega
      have hnt : namedB t.1 = namedT t := rfl
      obtain ⟨N, hN⟩ : ∃ N, namedT t = N := ⟨_, rfl⟩
      rw [hN] at hnt hft
      have HNT := Lib.hid hnt
      have HFT := Lib.hid hft
      have HFL := Lib.hid hfl
      clear ht hnt hN hft htw hfl
      go_wp2_with fail
      refine (rNamed_any t.1 wr).mono ?_
      rintro e w' ⟨rfl, rfl⟩
      rw [HNT.out]
      dsimp only
      cases N with
      | true =>
        go_wp2_with (at_builtin; refine wpList_append_own _ rfl (.tmp 20) (.tmp 25) 48 rfl w1.heap.size 51 i0 (.agg #[.int .i64 0, .int .i64 0, .int .i64 0]) 3 24 Tryz.underlying48 hi hz0 hz1 hz2 rfl (by decide) _ _ _ rfl (hO.out.alloc _) ⟨wr.heap.size, 0, none⟩ 1 1 (tokCells t) rfl rfl ?p1 ?p2 ?p3 ?p4 ?p5 ?_)
        case p1 =>
          intro j u hj
          have e : ((⟨wr.heap.size, 0, none⟩ : Addr).add j) = ⟨wr.heap.size, j, none⟩ := by unfold Addr.add; split <;> simp_all
          first
            | (rw [e, new_cell _ _ _ _ _ rfl]; exact hj)
            | exact hj
            | (simpa [tokCells] using hj)
        case p2 =>
          intro u hu
          simp [tokCells] at hu
          rcases hu with rfl | rfl | rfl <;> rfl
        case p3 => have := HFL.out; unfold maxLen; omega
        case p4 => have := HFL.out; omega
        case p5 => have := hB.out.size; simp; omega
        intro v' w3 hown' hgrow _
        have hO3 : Hid (w3.ownsRow w1.heap.size 51 3 v' ((ts.take (k + 1)).filter namedT).length (((ts.take (k + 1)).filter namedT).flatMap tokCells)) := by
          rw [Hid, HFT.out, if_pos (by trivial), List.length_append, List.flatMap_append]
          simpa using hown'
        have hB3 : Hid (Below w1.heap.size w1 w3) := (hB.out.alloc hB.out.size _).grown hgrow (by have := hB.out.size; simp; omega) (fun b hb => (hO.out.lt _ hb).1)
        clear hown' hgrow hO hB
        go_wp2
        go_roundg (ts.length - (k + 1))
        case measure => omega
        case rel => exact ⟨k + 1, by go_num, by omega, Nat.le_refl _, hO3, hB3⟩
      | false =>
        have hO3 : Hid (wr.ownsRow w1.heap.size 51 3 u3 ((ts.take (k + 1)).filter namedT).length (((ts.take (k + 1)).filter namedT).flatMap tokCells)) := by
          rw [Hid, HFT.out]
          simpa using hO.out
        clear hO
        go_wp2
        go_roundg (ts.length - (k + 1))
        case measure => omega
        case rel => exact ⟨k + 1, by go_num, by omega, Nat.le_refl _, hO3, hB⟩
    · obtain rfl : k = ts.length := by omega
      have hkz : ¬ (ts.length : Int) < (ts.length : Int) := by omega
      go_wp2
      go_ret
      refine ⟨_, rfl, ?_, Below.next HB1.out (Nat.le_refl _) hB.out⟩
      have := hO.out
      rw [List.take_of_length_le (Nat.le_refl _)] at this
      exact ownsRow_base this HB1.out.size
end Go.Proofs.YtbbibngagdpdcaaGreatDoor

namespace Go.Proofs.YtbbibngagdpdcaaGreatDoor
open Go Go.RowKit
open Go.Shelf
open Go.ChangeMaps Go.MapKept

/-- WHERE ONE FILE SPELLS A NAME. -/
def placesIn (i : Nat) (l x : List UInt8) (ts : List Tok) : List Plc := (ts.filter fun t => decide (sub l t.2.1 t.2.2 = x)).map fun t => (i, t.2.1)

def placesFrom (x : List UInt8) : Nat → List Fil → List Plc
  | _, [] => []
  | i, f :: r => placesIn i f.2.data.toList x (namesL f.2.data.toList) ++ placesFrom x (i + 1) r

theorem getP_file (F : Spell) (i : Nat) (l x : List UInt8) (ts : List Tok) : getP (fileSpell F i l ts) x = getP F x ++ placesIn i l x ts := by
  induction ts generalizing F with
  | nil => simp [fileSpell, placesIn]
  | cons t r ih =>
    have e : fileSpell F i l (t :: r) = fileSpell (putP F (sub l t.2.1 t.2.2) (i, t.2.1)) i l r := rfl
    rw [e, ih, getP_put, List.append_assoc]
    congr 1
    unfold placesIn
    by_cases h : sub l t.2.1 t.2.2 = x
    · rw [if_pos h, List.filter_cons, if_pos (by simpa using h)]
      rfl
    · rw [if_neg h, List.filter_cons, if_neg (by simpa using h)]
      rfl

theorem getP_from (x : List UInt8) (fs : List Fil) : ∀ (F : Spell) (i : Nat), getP (spellFrom F i fs) x = getP F x ++ placesFrom x i fs := by
  induction fs with
  | nil => intro F i; simp [spellFrom, placesFrom]
  | cons f r ih =>
    intro F i
    rw [spellFrom, ih, getP_file, placesFrom, List.append_assoc]

theorem getP_places (x : List UInt8) (fs : List Fil) : getP (spellL fs) x = placesFrom x 0 fs := by
  rw [spellL, getP_from]
  rfl

theorem placesIn_len (i : Nat) (l x : List UInt8) (ts : List Tok) : (placesIn i l x ts).length ≤ ts.length := by
  unfold placesIn
  rw [List.length_map]
  exact List.length_filter_le _ _

theorem placesIn_take (i : Nat) (l x : List UInt8) (ts : List Tok) (k : Nat) (h : k < ts.length) :
    placesIn i l x (ts.take (k + 1)) = placesIn i l x (ts.take k) ++ (if sub l ts[k].2.1 ts[k].2.2 = x then [(i, ts[k].2.1)] else []) := by
  unfold placesIn
  rw [List.take_succ_eq_append_getElem h, List.filter_append, List.map_append]
  congr 1
  by_cases hx : sub l ts[k].2.1 ts[k].2.2 = x
  · rw [if_pos hx, List.filter_cons, if_pos (by simpa using hx)]
    rfl
  · rw [if_neg hx, List.filter_cons, if_neg (by simpa using hx)]
    rfl

set_option maxHeartbeats 4000000 in
set_option maxRecDepth 100000 in
theorem rPlaces_any (fs : List Fil) (v : Value) (x : ByteArray) (w : World) (hf : Few fs) (hv : FilesAt w v fs) :
    Calls Tryz.prog 9 #[.string x, v] w fun e w' => ∃ v', e = .returned v' ∧ w'.ownsRow w.heap.size 32 2 v' (getP (spellL fs) x.data.toList).length ((getP (spellL fs) x.data.toList).flatMap placeCells) ∧ Below w.heap.size w w' := by
  obtain ⟨i0, hi0, hz0, hz1, hz2⟩ := info_parts Tryz.infoPlc
  obtain ⟨a, c, rfl, hv'⟩ := id hv
  have HV := Lib.hid hv'
  have HF := Lib.hid hf
  have hn := hf.many
  obtain ⟨Q, hQ⟩ : ∃ Q, getP (spellL fs) x.data.toList = Q := ⟨_, rfl⟩
  have HQ : Hid (placesFrom x.data.toList 0 fs = Q) := by rw [← hQ, Hid, getP_places]
  rw [hQ]
  clear hv hv' hf hQ
  go_enter Tryz.func9, Tryz.ntmps9
  go_wp2
  go_loopg [5, 6] fs.length (fun g s5 s6 wr => ∃ (i : Nat) (pre : List Plc), s6 = .int .i64 i ∧ i ≤ fs.length ∧ fs.length - i ≤ g ∧ pre.length ≤ 100001 * i ∧ Hid (wr.ownsRow w.heap.size 32 2 s5 pre.length (pre.flatMap placeCells)) ∧ Hid (Below w.heap.size w wr) ∧ Hid (pre ++ placesFrom x.data.toList i (fs.drop i) = Q))
  case atStart => exact ⟨0, [], rfl, Nat.zero_le _, Nat.le_refl _, Nat.zero_le _, World.ownsRow_nil _ _ _ _, Below.refl _ _, HQ.out⟩
  case round =>
    obtain ⟨i, pre, rfl, hi, hg, hpl, hO, hB, hP⟩ := hrel
    clear HQ
    by_cases hlt : i < fs.length
    · rcases HV.out with h0 | ⟨b, off, ha, hb, hc⟩
      · subst h0; simp at hlt
      subst ha
      obtain ⟨f, hfi⟩ : ∃ f, fs[i] = f := ⟨_, rfl⟩
      obtain ⟨c0, c1⟩ := hc i f (by rw [List.getElem?_eq_getElem hlt, hfi])
      have e1 := (hB.out.cell (p := ⟨b, off + i * 2 + 1, none⟩) hb).trans c1
      have hfs : f.2.size ≤ 100000 := HF.out.long f (by rw [← hfi]; exact List.getElem_mem _)
      have HC1 := Lib.hid c1
      have hp := hP.out
      rw [List.drop_eq_getElem_cons hlt, hfi, placesFrom] at hp
      have HP := Lib.hid hp
      have htl := names_len f.2.data.toList
      have hts := names_sub f.2.data.toList
      have hlf : f.2.data.toList.length = f.2.size := by simp
      rw [hlf] at htl hts
      have hnm := rNames_any f.2 wr (by omega)
      obtain ⟨ts, hTS⟩ : ∃ ts, namesL f.2.data.toList = ts := ⟨_, rfl⟩
      rw [hTS] at htl hts hnm HP
      have HTS := Lib.hid hts
      have HNM := Lib.hid hnm
      have hiz : (i : Int) < (fs.length : Int) := by omega
      clear c0 c1 hc hfi hp hP hts hnm hTS hlf
      go_wp2_with fail
      refine HNM.out.mono ?_
      rintro e w2 ⟨v2, rfl, hown2, hb2⟩
      obtain ⟨a2, c2, rfl⟩ := own_slice hown2
      have HT2 := Lib.hid hown2
      have hO2 := Lib.hid (own_later hO.out hb2)
      have hB2 := Lib.hid (Below.next hB.out (Nat.le_refl _) hb2)
      have HWS := Lib.hid hB.out.size
      clear hown2 hb2 hO hB HNM e1
      obtain ⟨wo, rfl⟩ : ∃ wo : World, wo = wr := ⟨_, rfl⟩
      dsimp only
      go_wp2
      go_loopg [5, 8] ts.length (fun g2 s5 s8 wi => ∃ k : Nat, s8 = .int .i64 k ∧ k ≤ ts.length ∧ ts.length - k ≤ g2 ∧ Hid (wi.ownsRow w.heap.size 32 2 s5 (pre ++ placesIn i f.2.data.toList x.data.toList (ts.take k)).length ((pre ++ placesIn i f.2.data.toList x.data.toList (ts.take k)).flatMap placeCells)) ∧ Hid (Below w.heap.size w wi) ∧
        Hid (wi.ownsRow wo.heap.size 51 3 (.slice a2 ts.length c2) ts.length (ts.flatMap tokCells)))
      case atStart => exact ⟨0, rfl, Nat.zero_le _, Nat.le_refl _, by simpa [Hid, placesIn] using hO2.out, hB2, HT2⟩
      case round =>
        obtain ⟨k, rfl, hk, hg2, hOi, hBi, hTi⟩ := hrel
        clear hO2 hB2 HT2
        by_cases hkl : k < ts.length
        · obtain ⟨t, ht⟩ : ∃ t, ts[k] = t := ⟨_, rfl⟩
          have hpt := placesIn_take i f.2.data.toList x.data.toList ts k hkl
          rcases hTi.out.2 with ⟨_, h0⟩ | ⟨g1, cap, cur, he, _⟩
          · omega
          cases he
          obtain ⟨d0, d1, d2⟩ := tok_cells hTi.out k hkl
          rw [ht] at d0 d1 d2 hpt
          obtain ⟨hb1, hb2⟩ := HTS.out t (by rw [← ht]; exact List.getElem_mem _)
          have e1 := (hBi.out.cell (p := ⟨b, off + i * 2 + 1, none⟩) hb).trans HC1.out
          have hkz : (k : Int) < (ts.length : Int) := by omega
          have hb1z : (t.2.1 : Int) ≤ (t.2.2 : Int) := by omega
          have hb2z : (t.2.2 : Int) ≤ (f.2.size : Int) := by omega
          have hpl2 : (pre ++ placesIn i f.2.data.toList x.data.toList (ts.take k)).length ≤ 100001 * i + k := by
            have h1 := placesIn_len i f.2.data.toList x.data.toList (ts.take k)
            have h2 := List.length_take_le k ts
            rw [List.length_append]
            omega
          obtain ⟨qs, hqs⟩ : ∃ qs, pre ++ placesIn i f.2.data.toList x.data.toList (ts.take k) = qs := ⟨_, rfl⟩
          rw [hqs] at hOi hpl2
          have hq2 : pre ++ placesIn i f.2.data.toList x.data.toList (ts.take (k + 1)) = qs ++ (if sub f.2.data.toList t.2.1 t.2.2 = x.data.toList then [(i, t.2.1)] else []) := by
            rw [hpt, ← List.append_assoc, hqs]
          have HQ2 := Lib.hid hq2
          have HPL2 := Lib.hid hpl2
          have hsub : (f.2.extract t.2.1 t.2.2).data.toList = sub f.2.data.toList t.2.1 t.2.2 := by rw [Lib.extract_data]; rfl
          clear ht hpt hqs hq2 hpl2
          by_cases hx : sub f.2.data.toList t.2.1 t.2.2 = x.data.toList
          · have hex : f.2.extract t.2.1 t.2.2 = x := by
              have h1 : (f.2.extract t.2.1 t.2.2).data.toList = x.data.toList := hsub.trans hx
              have h2 : (f.2.extract t.2.1 t.2.2).data = x.data := Array.toList_inj.1 h1
              exact congrArg ByteArray.mk h2
            have HX := Lib.hid hx
            clear hsub hx
            go_wp2
            go_quiet (fail)
            go_wp2_with (at_builtin; refine wpList_append_own _ rfl (.tmp 45) (.tmp 53) 28 rfl w.heap.size 32 i0 (.agg #[.int .i64 0, .int .i64 0]) 2 16 Tryz.underlying28 hi0 hz0 hz1 hz2 rfl (by decide) _ _ _ rfl ((own_later hOi.out (below_draw0 wr _)).alloc _) ⟨wr.heap.size, 0, none⟩ 1 1 (placeCells (i, t.2.1)) rfl rfl ?p1 ?p2 ?p3 ?p4 ?p5 ?_)
            case p1 =>
              intro j u hj
              have e : ((⟨wr.heap.size, 0, none⟩ : Addr).add j) = ⟨wr.heap.size, j, none⟩ := by unfold Addr.add; split <;> simp_all
              rw [e, new_cell (wr.drewN nq) wr.heap.size j _ _ rfl]
              match j, hj with
              | 0, hj | 1, hj => simpa [placeCells] using hj
            case p2 =>
              intro u hu
              simp [placeCells] at hu
              rcases hu with rfl | rfl <;> rfl
            case p3 => have := HPL2.out; unfold maxLen; omega
            case p4 => have := HPL2.out; omega
            case p5 => have := hBi.out.size; simp; omega
            intro v' w3 hown' hgrow _
            have hO3 : Hid (w3.ownsRow w.heap.size 32 2 v' (pre ++ placesIn i f.2.data.toList x.data.toList (ts.take (k + 1))).length ((pre ++ placesIn i f.2.data.toList x.data.toList (ts.take (k + 1))).flatMap placeCells)) := by
              rw [Hid, HQ2.out, if_pos HX.out, List.length_append, List.flatMap_append]
              simpa using hown'
            have hO4 := own_later hOi.out (below_draw0 wr nq)
            have hB4 : Below w.heap.size w (wr.drewN nq) := below_draws hBi.out _
            have hT4 := own_later hTi.out (below_draw0 wr nq)
            have hB3 : Hid (Below w.heap.size w w3) := (hB4.alloc hB4.size _).grown hgrow (by have := hB4.size; simp at this ⊢; omega) (fun b hb => (hO4.lt _ hb).1)
            have hT5 := hT4.alloc (.cells #[.int .i64 (i : Nat), .int .i64 (t.2.1 : Nat)] 32)
            have hne5 : (Value.slice (some ⟨g1, 0, none⟩) ts.length c2).ownBlock ≠ u5.ownBlock := by
              rcases hT5.2 with ⟨he, _⟩ | ⟨g, cap', cur', he, _, hg', _⟩
              · cases he
              · simp only [Value.slice.injEq, Option.some.injEq, Addr.mk.injEq, and_true, true_and] at he
                obtain ⟨rfl, rfl⟩ := he
                exact not_own (hO4.alloc _) hg' (by decide)
            have hT3 : Hid (w3.ownsRow wo.heap.size 51 3 (.slice (some ⟨g1, 0, none⟩) ts.length c2) ts.length (ts.flatMap tokCells)) := hT5.kept hgrow (Or.inr hne5)
            clear hown' hgrow hOi hBi hTi hO4 hB4 hT4 hT5 hne5 e1 d0 d1 d2
            go_wp2
            go_roundg (ts.length - (k + 1))
            case measure => omega
            case rel => exact ⟨k + 1, by go_num, by omega, Nat.le_refl _, hO3, hB3, hT3⟩
          · have hne : ((f.2.extract t.2.1 t.2.2).toList == x.toList) = false := by
              rw [beq_eq_false_iff_ne, Lib.toList_data, Lib.toList_data, hsub]
              exact hx
            have HX := Lib.hid hx
            clear hsub hx
            go_wp2
            go_quiet (fail)
            go_wp2
            go_roundg (ts.length - (k + 1))
            case measure => omega
            case rel =>
              refine ⟨k + 1, by go_num, by omega, Nat.le_refl _, ?_, ?_, ?_⟩
              · have := HQ2.out
                rw [if_neg HX.out, List.append_nil] at this
                rw [Hid, this]
                exact own_later hOi.out (below_draw0 _ _)
              · exact below_draws hBi.out _
              · exact own_later hTi.out (below_draw0 _ _)
        · obtain rfl : k = ts.length := by omega
          have hkz : ¬ (ts.length : Int) < (ts.length : Int) := by omega
          go_wp2
          go_roundg (fs.length - (i + 1))
          case measure => omega
          case rel =>
            refine ⟨i + 1, pre ++ placesIn i f.2.data.toList x.data.toList ts, by go_num, by omega, Nat.le_refl _, ?_, ?_, hBi, ?_⟩
            · have h1 := placesIn_len i f.2.data.toList x.data.toList ts
              rw [List.length_append]
              omega
            · have := hOi.out
              rw [List.take_of_length_le (Nat.le_refl _)] at this
              exact this
            · show _ = _
              rw [List.append_assoc]
              exact HP.out
    · obtain rfl : i = fs.length := by omega
      have hiz : ¬ (fs.length : Int) < (fs.length : Int) := by omega
      go_wp2
      go_ret
      refine ⟨_, rfl, ?_, hB.out⟩
      have hp := hP.out
      rw [List.drop_length, placesFrom, List.append_nil] at hp
      rw [← hp]
      exact hO.out
end Go.Proofs.YtbbibngagdpdcaaGreatDoor
