import Derived.Test.YtbbibngagdpdcaaDoorE5
namespace Go.Proofs.YtbbibngagdpdcaaDoor
open Go Go.RowKit
open Go.Shelf
open Go.ChangeMaps Go.MapKept

set_option maxHeartbeats 4000000 in
set_option maxRecDepth 100000 in
theorem order_any (fs : List Fil) (v : Value) (w : World) (ht : TabOk w) (hv : FilesAt w v fs) (hbig : fs.length ≤ 9223372036854775807) (hs : ∀ f ∈ fs, f.1.size ≤ 9223372036854775807 ∧ f.2.size ≤ 9223372036854775807) :
    Calls Tryd.prog 4 #[v] w fun e w' => e = .returned (.bool true) ∧ Below w.heap.size w w' := by
  obtain ⟨i0, hi0, hz0, hz1, hz2⟩ := info_parts Tryd.infoFil
  obtain ⟨a, c, rfl, hv'⟩ := id hv
  have HVC := Lib.hid hv'
  clear hv'
  have HT := Lib.hid ht
  have HV := Lib.hid hv
  have hfc := few_any fs _ w hv hbig hs
  have HFC := Lib.hid hfc
  clear ht hv hs hfc
  go_enter Tryd.func4, Tryd.ntmps4
  go_wp2_with fail
  refine HFC.out.mono ?_
  rintro e w1 ⟨rfl, hb1⟩
  clear HFC
  have HB1 := Lib.hid hb1
  clear hb1
  cases hfew : fewB fs with
  | false =>
    have HE := Lib.hid hfew
    clear hfew
    dsimp only
    go_wp2_with fail
    refine (alive_any w1 (HT.out.later HB1.out)).mono ?_
    rintro e w2 ⟨rfl, hb2⟩
    go_wp2
    go_ret
    exact ⟨rfl, Below.next HB1.out (Nat.le_refl _) hb2⟩
  | true =>
    have hF := few_of fs hfew
    have HF := Lib.hid hF
    have hmany := hF.many
    clear hfew hF
    dsimp only
    go_wp2
    go_loopg [3, 4] fs.length (fun g s3 s4 wr => ∃ (k : Nat) (x : Int), s4 = .int .i64 x ∧ x = (fs.length : Int) - 1 - (k : Int) ∧ k ≤ fs.length ∧ fs.length - k ≤ g ∧ Hid (wr.ownsRow w.heap.size 29 2 s3 k (((backL fs).take k).flatMap fileCells)) ∧ Hid (Below w.heap.size w wr))
    case atStart => exact ⟨0, _, rfl, by omega, Nat.zero_le _, Nat.le_refl _, World.ownsRow_nil _ _ _ _, HB1⟩
    case round =>
      obtain ⟨k, x, rfl, hx, hk, hg, hO, hB⟩ := hrel
      clear HB1
      by_cases hlt : k < fs.length
      · obtain ⟨j, hj⟩ : ∃ j : Nat, fs.length - 1 - k = j := ⟨_, rfl⟩
        obtain rfl : x = (j : Int) := by omega
        have hjn : j < fs.length := by omega
        rcases HVC.out with h0 | ⟨b, off, ha, hb, hc⟩
        · subst h0; simp at hlt
        subst ha
        obtain ⟨f, hfi⟩ : ∃ f, fs[j] = f := ⟨_, rfl⟩
        obtain ⟨c0, c1⟩ := hc j f (by rw [List.getElem?_eq_getElem hjn, hfi])
        have e1 := (hB.out.cell (p := ⟨b, off + j * 2 + 1, none⟩) hb).trans c1
        have hto : Hid ((backL fs).take (k + 1) = (backL fs).take k ++ [((⟨#[98]⟩ : ByteArray), f.2)]) := by
          rw [Hid, back_take fs k hlt, ← hfi]
          simp only [hj]
        have HX := Lib.hid hx
        have HJ := Lib.hid hj
        have hjz : (j : Int) < (fs.length : Int) := by omega
        clear c0 c1 hc hfi hx hj
        go_wp2_with (at_builtin; refine wpList_append_own _ rfl (.tmp 19) (.tmp 26) 22 rfl w.heap.size 29 i0 (.agg #[.string ⟨#[]⟩, .string ⟨#[]⟩]) 2 32 Tryd.underlying22 hi0 hz0 hz1 hz2 rfl (by decide) _ _ _ rfl (hO.out.alloc _) ⟨wr.heap.size, 0, none⟩ 1 1 (fileCells ((⟨#[98]⟩ : ByteArray), f.2)) rfl rfl ?p1 ?p2 ?p3 ?p4 ?p5 ?_)
        case p1 =>
          intro j u hj
          have e : ((⟨wr.heap.size, 0, none⟩ : Addr).add j) = ⟨wr.heap.size, j, none⟩ := by unfold Addr.add; split <;> simp_all
          rw [e, new_cell _ _ _ _ _ (by simp)]
          match j, hj with
          | 0, hj | 1, hj => simpa [fileCells] using hj
        case p2 =>
          intro u hu
          simp [fileCells] at hu
          rcases hu with rfl | rfl <;> rfl
        case p3 => unfold maxLen; omega
        case p4 => omega
        case p5 => have := hB.out.size; simp; omega
        intro v' w3 hown' hgrow _
        have ho3 : Hid (w3.ownsRow w.heap.size 29 2 v' (k + 1) (((backL fs).take (k + 1)).flatMap fileCells)) := by
          rw [Hid, hto.out, List.flatMap_append]
          simpa using hown'
        have hb3 : Hid (Below w.heap.size w w3) := (hB.out.alloc (hB.out.size) _).grown hgrow (by have := hB.out.size; simp; omega) (fun k hk => (hO.out.lt k hk).1)
        clear hown' hgrow hO hB e1 hto
        go_wp2
        go_roundg (fs.length - (k + 1))
        case measure => omega
        case rel => exact ⟨k + 1, _, rfl, by have := HX.out; have := HJ.out; push_cast; omega, by omega, Nat.le_refl _, ho3, hb3⟩
      · obtain rfl : k = fs.length := by omega
        obtain rfl : x = -1 := by omega
        have HO := hO.out
        rw [List.take_of_length_le (by rw [back_len]; exact Nat.le_refl _)] at HO
        have hO2 := Lib.hid HO
        have hsl := own_slice HO
        obtain ⟨a3, c3, rfl⟩ := hsl
        clear HO hO hx
        go_wp2_with fail
        refine (taken_any fs _ _ HF.out (HV.out.later hB.out)).mono ?_
        rintro e w4 ⟨v4, rfl, hown4, hb4⟩
        have hS4 := strs_own hown4 rfl
        have hlen := taken_len fs
        have hsl := spell_len fs HF.out
        obtain ⟨a4, c4, he, _⟩ := id hS4
        subst he
        have HV4 := Lib.hid ((HV.out.later hB.out).later hb4)
        have HK4 := Lib.hid ((files_own hO2.out (back_len fs).symm).later hb4)
        have HB4 := Lib.hid (Below.next hB.out (Nat.le_refl _) hb4)
        have HT4 := Lib.hid (HT.out.later HB4.out)
        obtain ⟨zs, hzs⟩ : ∃ zs, takenL fs = zs := ⟨_, rfl⟩
        rw [hzs] at hS4 hlen ⊢
        have HS4 := Lib.hid hS4
        have HZS := Lib.hid hzs
        have hzl : zs.length ≤ 100000000 := by omega
        clear hS4 hzs hown4 hb4 hB hO2 hlen hsl
        obtain ⟨wo, rfl⟩ : ∃ wo : World, wo = wr := ⟨_, rfl⟩
        dsimp only
        go_wp2
        go_loopg [32] zs.length (fun g s32 wi => ∃ i : Nat, s32 = .int .i64 i ∧ i ≤ zs.length ∧ zs.length - i ≤ g ∧ Hid (Below w4.heap.size w4 wi))
        case atStart => exact ⟨0, rfl, Nat.zero_le _, Nat.le_refl _, Below.refl _ _⟩
        case round =>
          obtain ⟨i, rfl, hi, hg2, hBi⟩ := hrel
          by_cases hil : i < zs.length
          · obtain ⟨aS, cS, heS, hSc⟩ := HS4.out
            rcases hSc with h0 | ⟨b4, off4, ha4, hb4, hc4⟩
            · subst h0; simp at hil
            cases heS
            subst ha4
            have hci := hc4 i hil
            obtain ⟨l, hl⟩ : ∃ l, zs[i] = l := ⟨_, rfl⟩
            rw [show zs.getD i [] = l by simp [List.getD, List.getElem?_eq_getElem hil, hl]] at hci
            have e4 := (hBi.out.cell (p := ⟨b4, off4 + i, none⟩) hb4).trans hci
            unfold strV at e4
            have hlm : Hid (l ∈ takenL fs) := by rw [Hid, HZS.out, ← hl]; exact List.getElem_mem _
            have hiz : (i : Int) < (zs.length : Int) := by omega
            have HC4 := Lib.hid hc4
            have HL := Lib.hid hl
            clear hci hc4 hl
            go_wp2_with fail
            refine (places_taken fs _ l _ HF.out (HV4.out.later hBi.out) hlm.out).mono ?_
            rintro e w5 ⟨n5, a5, c5, hn5, rfl, hb5⟩
            have hn6 : ((n5 : Int) == 0) = false := by rw [beq_eq_false_iff_ne]; omega
            have hn7 : ¬ (n5 : Int) = 0 := by omega
            have hB5 := Lib.hid (Below.next hBi.out (Nat.le_refl _) hb5)
            clear hb5
            dsimp only
            go_wp2_with fail
            refine (free_taken fs _ l _ HF.out (HV4.out.later hB5.out) hlm.out).mono ?_
            rintro e w6 ⟨rfl, hb6⟩
            have hB6 := Lib.hid (Below.next hB5.out (Nat.le_refl _) hb6)
            clear hb6 e4
            dsimp only
            by_cases hi0' : 0 < i
            · obtain ⟨p, hp⟩ : ∃ p : Nat, i - 1 = p := ⟨_, rfl⟩
              have hpl : p < zs.length := by omega
              have hpi : (i : Int) - 1 = (p : Int) := by omega
              obtain ⟨l', hl'⟩ : ∃ l, zs[p] = l := ⟨_, rfl⟩
              have hcp := HC4.out p hpl
              rw [show zs.getD p [] = l' by simp [List.getD, List.getElem?_eq_getElem hpl, hl']] at hcp
              have e5 := (hB6.out.cell (p := ⟨b4, off4 + p, none⟩) hb4).trans hcp
              unfold strV at e5
              have hless : Op.bytesLess l' l = true := by
                rw [Go.Proofs.bytesLess_eq, decide_eq_true_eq, ← hl', ← HL.out]
                have h9 := taken_lt fs p (by rw [HZS.out]; omega)
                simp only [HZS.out] at h9
                have e9 : p + 1 = i := by omega
                simp only [e9] at h9
                exact h9
              have hpz : (p : Int) < (zs.length : Int) := by omega
              have hi0z : (0 : Int) < (i : Int) := by omega
              have HPI := Lib.hid hp
              have HL' := Lib.hid hl'
              clear hcp hp hl'
              go_wp2
              go_roundg (zs.length - (i + 1))
              case measure => omega
              case rel => exact ⟨i + 1, by go_num, by omega, Nat.le_refl _, hB6⟩
            · have hi0z : ¬ (0 : Int) < (i : Int) := by omega
              go_wp2
              go_roundg (zs.length - (i + 1))
              case measure => omega
              case rel => exact ⟨i + 1, by go_num, by omega, Nat.le_refl _, hB6⟩
          · obtain rfl : i = zs.length := by omega
            go_wp2_with fail
            refine (taken_any (backL fs) _ _ (back_few HF.out) (HK4.out.later hBi.out)).mono ?_
            rintro e w7 ⟨v7, rfl, hown7, hb7⟩
            rw [taken_back, HZS.out] at hown7
            have hS7 := Lib.hid (strs_own hown7 rfl)
            have hB7 := Lib.hid (Below.next hBi.out (Nat.le_refl _) hb7)
            clear hown7 hb7
            dsimp only
            go_wp2_with fail
            refine (texts_any zs zs _ v7 _ (HS4.out.later hB7.out) hS7.out (by omega) (by omega)).mono ?_
            rintro e w8 ⟨rfl, hb8⟩
            have hB8 := Lib.hid (Below.next hB7.out (Nat.le_refl _) hb8)
            clear hb8
            rw [decide_eq_true (rfl : zs = zs)]
            dsimp only
            go_wp2_with fail
            refine (alive_any w8 (HT4.out.later hB8.out)).mono ?_
            rintro e w9 ⟨rfl, hb9⟩
            go_wp2
            go_ret
            exact ⟨rfl, Below.next HB4.out (Nat.le_refl _) (Below.next hB8.out (Nat.le_refl _) hb9)⟩
end Go.Proofs.YtbbibngagdpdcaaDoor
