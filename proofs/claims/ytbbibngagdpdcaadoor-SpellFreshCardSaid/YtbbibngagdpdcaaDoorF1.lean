import Derived.Test.YtbbibngagdpdcaaDoorF0
import Derived.Laws.AppendOwnNone
namespace Go.Proofs.YtbbibngagdpdcaaDoor
open Go Go.RowKit
open Go.Shelf
open Go.ChangeMaps Go.MapKept

theorem one_text (r : List UInt8) : ((⟨#[32]⟩ : ByteArray) ++ ⟨r.toArray⟩) ++ ⟨#[32]⟩ = (oneF r).2 := by
  have h : (((⟨#[32]⟩ : ByteArray) ++ ⟨r.toArray⟩) ++ ⟨#[32]⟩).data = (oneF r).2.data := by
    apply Array.toList_inj.1
    rw [ByteArray.data_append, ByteArray.data_append, Array.toList_append, Array.toList_append]
    rfl
  exact congrArg ByteArray.mk h

theorem empty_row (w : World) (e : TypeId) (size : Nat) : (w.alloc (.cells #[] e)).ownsRow w.heap.size e size (.slice (some ⟨w.heap.size, 0, none⟩) 0 0) 0 [] :=
  ⟨by simp, .inr ⟨w.heap.size, 0, #[], rfl, Nat.le_refl _, heap_alloc_new w _, Nat.le_refl _, Nat.zero_le _, by simp, by simp⟩⟩

theorem files_cells {w : World} {b off : Nat} {fs : List Fil} (hc : ∀ j f, fs[j]? = some f → w.cell? ⟨b, off + j * 2, none⟩ = some (.string f.1) ∧ w.cell? ⟨b, off + j * 2 + 1, none⟩ = some (.string f.2)) (j : Nat) (u : Value)
    (hu : (fs.flatMap fileCells)[j]? = some u) : w.cell? ((⟨b, off, none⟩ : Addr).add j) = some u := by
  have hadd : ((⟨b, off, none⟩ : Addr).add j) = ⟨b, off + j, none⟩ := by unfold Addr.add; split <;> simp_all
  have hjl : j < (fs.flatMap fileCells).length := (List.getElem?_eq_some_iff.1 hu).1
  rw [file_flat_len] at hjl
  have hi : j / 2 < fs.length := by omega
  obtain ⟨c0, c1⟩ := hc (j / 2) fs[j / 2] (List.getElem?_eq_getElem hi)
  rw [hadd]
  rcases (by omega : j % 2 = 0 ∨ j % 2 = 1) with h | h
  · have e : j = j / 2 * 2 + 0 := by omega
    rw [e, file_flat_get fs (j / 2) hi 0 (by omega)] at hu
    rw [show off + j = off + j / 2 * 2 by omega, c0]
    exact hu
  · have e : j = j / 2 * 2 + 1 := by omega
    rw [e, file_flat_get fs (j / 2) hi 1 (by omega)] at hu
    rw [show off + j = off + j / 2 * 2 + 1 by omega, c1]
    exact hu

set_option maxRecDepth 100000 in
/-- APPEND OF ALL FILES THAT CAME IN, nil let in, onto a row of the call's own. -/
theorem wpList_append_files (w : World) {ops : Array Oper} {rest : List Oper} {o : Oper} {a : Act} {Q : Exit → Act → World → Prop} (hgd : o.guard = none) (s x : Operand)
    (ho : o.op = .call { callee := .builtin .append, args := #[s, x], argTypes := #[22, 22] }) (base : Nat) (v : Value) (n : Nat) (xs : List Value) (hs : a.eval s = v) (hown : w.ownsRow base 29 2 v n xs)
    (fs : List Fil) (vx : Value) (hx : a.eval x = vx) (hfa : FilesAt w vx fs) (hnil : vx = .slice none 0 0 ∨ ∃ ad n c, vx = .slice (some ad) n c) (hbig : n + fs.length ≤ 1000) (hbase : base ≤ w.heap.size)
    (h : ∀ v' w', w'.ownsRow base 29 2 v' (n + fs.length) (xs ++ fs.flatMap fileCells) → w.grownBy w' v.ownBlock → wpList Tryd.prog ops Q rest (a.put o.dst v') w') : wpList Tryd.prog ops Q (o :: rest) a w := by
  obtain ⟨i0, hi0, hz0, hz1, hz2⟩ := info_parts Tryd.infoFil
  have hml : n + fs.length ≤ maxLen := Nat.le_trans hbig (by unfold maxLen; omega)
  have h1c : ∀ u ∈ fs.flatMap fileCells, u.oneCell' = true := by
    intro u hu
    obtain ⟨f, _, hf⟩ := List.mem_flatMap.1 hu
    simp [fileCells] at hf
    rcases hf with rfl | rfl <;> rfl
  rcases hnil with rfl | ⟨ad, n', c', rfl⟩
  · obtain ⟨a', c, he, _⟩ := hfa
    have h0 : fs.length = 0 := by injection he with _ h2 _; exact h2.symm
    have hfs : fs = [] := List.eq_nil_of_length_eq_zero h0
    subst hfs
    refine wpList_append_own_none hgd s x 22 ho base 29 i0 2 Tryd.underlying22 hi0 v n xs hs hown hx ?_
    exact h v w (by simpa using hown) ⟨rfl, rfl, rfl, Nat.le_refl _, fun _ _ _ => rfl⟩
  · obtain ⟨a', c, he, hcs⟩ := hfa
    have hn' : n' = fs.length ∧ a' = some ad := by injection he with h1 h2 _; exact ⟨h2, h1.symm⟩
    obtain ⟨rfl, rfl⟩ := hn'
    refine wpList_append_own w hgd s x 22 ho base 29 i0 _ 2 32 Tryd.underlying22 hi0 hz0 hz1 hz2 rfl (by decide) v n xs hs hown ad fs.length c' (fs.flatMap fileCells) hx (file_flat_len fs) ?_ h1c hml (by omega) hbase (fun v' w' h2 h3 _ => h v' w' h2 h3)
    intro j u hu
    rcases hcs with rfl | ⟨b, off, hab, _, hc⟩
    · simp at hu
    · cases hab
      exact files_cells hc j u hu

/-- WHAT THE LAW's LAST LINE ASKS. -/
structure AllSo (fs ms : List Fil) (r l : List UInt8) (x y : List (List UInt8)) : Prop where
  alike : alikeL r l = true
  free : freeL fs r = true
  held : freeL ms r = false
  len : y.length = x.length + 1
  iny : y.contains r = true
  notx : x.contains r = false

theorem all_so {fs : List Fil} {r l : List UInt8} (h : FreshLaw fs l r) : AllSo fs (fs ++ [oneF r]) r l (takenL fs) (takenL (fs ++ [oneF r])) := by
  have hm : r ∈ takenL (fs ++ [oneF r]) := (more_mem fs r h.one r).2 (.inl rfl)
  refine ⟨h.alike, ?_, ?_, more_len h.one h.free, by simpa using hm, by simpa using h.free⟩
  · have : getP (spellL fs) r = [] := by
      by_cases hg : getP (spellL fs) r = []
      · exact hg
      · exact absurd ((taken_places fs r).2 hg) h.free
    rw [freeL, h.self, this]; rfl
  · have := (taken_places _ r).1 hm
    rw [freeL, h.self, Bool.true_and]
    simpa using this

set_option maxHeartbeats 4000000 in
set_option maxRecDepth 100000 in
/-- THE LAW's LAST LINE, every part of it true. -/
theorem fresh_tail (fs : List Fil) (v : Value) (s : ByteArray) (w : World) (ht : TabOk w) (hv : FilesAt w v fs) (hnil : v = .slice none 0 0 ∨ ∃ ad n c, v = .slice (some ad) n c) (hbig : fs.length ≤ 9223372036854775807)
    (hs : ∀ f ∈ fs, f.1.size ≤ 9223372036854775807 ∧ f.2.size ≤ 9223372036854775807) (hs1 : s.size ≤ 100) (hfew : fewB fs = true) :
    Calls Tryd.prog 3 #[v, .string s] w fun e w' => e = .returned (.bool true) ∧ Below w.heap.size w w' := by
  obtain ⟨i0, hi0, hz0, hz1, hz2⟩ := info_parts Tryd.infoFil
  have hF := few_of fs hfew
  have hlen4 : fs.length ≤ 4 := by simp only [fewB, Bool.and_eq_true, decide_eq_true_eq] at hfew; exact hfew.1
  have hfc := few_any fs _ w hv hbig hs
  rw [hfew] at hfc
  have HFC := Lib.hid hfc
  have HFW := Lib.hid hfew
  have HF := Lib.hid hF
  have HT := Lib.hid ht
  have HV := Lib.hid hv
  have HN := Lib.hid hnil
  obtain ⟨a, c, rfl, hv'⟩ := id hv
  clear hv hv' ht hs hfc hfew hF hnil
  go_enter Tryd.func3, Tryd.ntmps3
  go_wp2_with fail
  refine HFC.out.mono ?_
  rintro e w1 ⟨rfl, hb1⟩
  have HB1 := Lib.hid hb1
  clear hb1 HFC
  dsimp only
  have hs2 : ¬ (100 : Int) < (s.size : Int) := by omega
  go_wp2_with fail
  refine (fresh_any fs _ s w1 (HT.out.later HB1.out) HF.out (HV.out.later HB1.out) (by omega)).mono ?_
  rintro e w2 ⟨r, b, hFI, rfl, hb2⟩
  have HB2 := Lib.hid (Below.next HB1.out (Nat.le_refl _) hb2)
  clear hb2 HB1
  cases b with
  | false =>
    obtain ⟨rfl, hal⟩ := fresh_none_law hFI
    have HA := Lib.hid hal
    clear hal hFI
    dsimp only [strV]
    go_wp2_with fail
    refine (alike_any s s w2 (by omega) (by omega)).mono ?_
    rintro e w3 ⟨rfl, hb3⟩
    rw [HA.out]
    have HB3 := Lib.hid (Below.next HB2.out (Nat.le_refl _) hb3)
    clear hb3
    dsimp only
    go_wp2_with fail
    refine (alive_any w3 (HT.out.later HB3.out)).mono ?_
    rintro e w4 ⟨rfl, hb4⟩
    go_wp2
    go_ret
    exact ⟨rfl, Below.next HB3.out (Nat.le_refl _) hb4⟩
  | true =>
    have hL := fresh_law HFW.out hFI
    have hA := all_so hL
    have hrl := hL.small
    have hMF := more_few HF.out hlen4 hL.small
    obtain ⟨ms, hms⟩ : ∃ ms, fs ++ [oneF r] = ms := ⟨_, rfl⟩
    rw [hms] at hA hMF
    obtain ⟨rs, hrs⟩ : ∃ rs : ByteArray, (⟨r.toArray⟩ : ByteArray) = rs := ⟨_, rfl⟩
    have hrz : rs.size ≤ 2000 := by rw [← hrs]; exact hrl
    have hrd : rs.data.toList = r := by rw [← hrs]
    have hsv : strV r = .string rs := by rw [strV, hrs]
    rw [hsv]
    obtain ⟨M, hM⟩ : ∃ M : ByteArray, (⟨#[32]⟩ : ByteArray) ++ rs = M := ⟨_, rfl⟩
    obtain ⟨T, hT⟩ : ∃ T : ByteArray, M ++ ⟨#[32]⟩ = T := ⟨_, rfl⟩
    have hone : oneF r = (⟨#[]⟩, T) := by
      have := one_text r
      rw [hrs, hM, hT] at this
      rw [this]; rfl
    have hMz : M.size ≤ 2001 := by
      have : M.size = (⟨#[32]⟩ : ByteArray).size + rs.size := by rw [← hM, ByteArray.size_append]
      have h1 : (⟨#[32]⟩ : ByteArray).size = 1 := rfl
      omega
    have ha1 : ∀ W : World, (Op.stringOp .add ⟨#[32]⟩ rs).run Tryd.prog W = .ok (.string M) W := fun W => by rw [← hM]; exact run_string_add_sum W _ _ (by have h1 : (⟨#[32]⟩ : ByteArray).size = 1 := rfl; omega)
    have ha2 : ∀ W : World, (Op.stringOp .add M ⟨#[32]⟩).run Tryd.prog W = .ok (.string T) W := fun W => by rw [← hT]; exact run_string_add_sum W _ _ (by have h1 : (⟨#[32]⟩ : ByteArray).size = 1 := rfl; omega)
    have HA := Lib.hid hA
    have HMF := Lib.hid hMF
    have HMS := Lib.hid hms
    have HRD := Lib.hid hrd
    have HONE := Lib.hid hone
    clear hA hMF hms hrd hrs hsv hM hT hone hL hFI hrl hMz
    dsimp only
    obtain ⟨wo, rfl⟩ : ∃ wo : World, wo = w2 := ⟨_, rfl⟩
    go_wp2_with (at_builtin; refine wpList_append_files _ rfl (.tmp 38) (.tmp 39) rfl wo.heap.size _ 0 [] rfl (empty_row wo _ 2) fs _ rfl ((HV.out.later HB2.out).later ((Below.refl _ _).alloc (Nat.le_refl _) _)) HN.out (by omega) (by simp) ?_)
    intro v4 w4 hown4 hg4
    have hb4 : Hid (Below w.heap.size w w4) := (HB2.out.alloc HB2.out.size _).grown hg4 (by have := HB2.out.size; simp; omega) (fun k hk => by cases hk; exact HB2.out.size)
    have hso : Hid (wo.heap.size ≤ w4.heap.size) := by have := hg4.size; simp at this; show _ ≤ _; omega
    clear hg4
    go_wp2_with (at_builtin; refine wpList_append_own _ rfl (.tmp 40) (.tmp 45) 22 rfl wo.heap.size 29 i0 (.agg #[.string ⟨#[]⟩, .string ⟨#[]⟩]) 2 32 Tryd.underlying22 hi0 hz0 hz1 hz2 rfl (by decide) _ _ _ rfl (hown4.alloc _) ⟨w4.heap.size, 0, none⟩ 1 1 (fileCells ((⟨#[]⟩ : ByteArray), T)) rfl rfl ?p1 ?p2 ?p3 ?p4 ?p5 ?_)
    case p1 =>
      intro j u hj
      have e : ((⟨w4.heap.size, 0, none⟩ : Addr).add j) = ⟨w4.heap.size, j, none⟩ := by unfold Addr.add; split <;> simp_all
      rw [e, new_cell _ _ _ _ _ (by simp)]
      match j, hj with
      | 0, hj | 1, hj => simpa [fileCells] using hj
    case p2 =>
      intro u hu
      simp [fileCells] at hu
      rcases hu with rfl | rfl <;> rfl
    case p3 => unfold maxLen; omega
    case p4 => omega
    case p5 => have := hso.out; simp; omega
    intro v5 w5 hown5 hg5 _
    have hb5 : Hid (Below w.heap.size w w5) := (hb4.out.alloc hb4.out.size _).grown hg5 (by have := hb4.out.size; simp; omega) (fun k hk => by have := (hown4.lt k hk).1; have := HB2.out.size; omega)
    have hM5 : Hid (FilesAt w5 v5 ms) := by
      have hfl : ms.flatMap fileCells = fs.flatMap fileCells ++ fileCells ((⟨#[]⟩ : ByteArray), T) := by
        rw [← HMS.out, List.flatMap_append, HONE.out]; simp
      rw [← hfl] at hown5
      exact files_own hown5 (by rw [← HMS.out]; simp)
    clear hown4 hown5 hg5 hb4 HB2 hso ha1 ha2
    obtain ⟨a5, c5, he5, _⟩ := id hM5.out
    subst he5
    go_wp2_with fail
    refine (taken_any fs _ w5 HF.out (HV.out.later hb5.out)).mono ?_
    rintro e w6 ⟨v6, rfl, hown6, hb6⟩
    have hS6 := strs_own hown6 rfl
    obtain ⟨a6, c6, he6, _⟩ := id hS6
    subst he6
    have HS6 := Lib.hid hS6
    have HB6 := Lib.hid (Below.next hb5.out (Nat.le_refl _) hb6)
    have HM6 := Lib.hid (hM5.out.later hb6)
    clear hS6 hown6 hb6 hb5 hM5
    dsimp only
    go_wp2_with fail
    refine (taken_any ms _ w6 HMF.out HM6.out).mono ?_
    rintro e w7 ⟨v7, rfl, hown7, hb7⟩
    have hS7 := strs_own hown7 rfl
    obtain ⟨a7, c7, he7, _⟩ := id hS7
    subst he7
    have HS7 := Lib.hid hS7
    have HX7 := Lib.hid (HS6.out.later hb7)
    have HB7 := Lib.hid (Below.next HB6.out (Nat.le_refl _) hb7)
    have HM7 := Lib.hid (HM6.out.later hb7)
    clear hS7 hown7 hb7 HB6 HM6 HS6
    have hly := HA.out.len
    have hlx := taken_len fs
    have hls := spell_len fs HF.out
    obtain ⟨xs, hxs⟩ : ∃ xs, takenL fs = xs := ⟨_, rfl⟩
    obtain ⟨ys, hys⟩ : ∃ ys, takenL ms = ys := ⟨_, rfl⟩
    rw [hxs, hys] at hly HA
    rw [hxs] at HX7 hlx
    rw [hys] at HS7
    rw [hxs, hys]
    have hxz : xs.length ≤ 100000000 := by omega
    rw [hly]
    have HLY := Lib.hid hly
    clear hly hxs hys hlx hls
    dsimp only
    go_wp2_with fail
    refine (alike_any rs s w7 (by omega) (by omega)).mono ?_
    rintro e w8 ⟨rfl, hb8⟩
    rw [HRD.out, HA.out.alike]
    have HB8 := Lib.hid hb8
    clear hb8
    dsimp only
    go_wp2_with fail
    refine (free_any fs _ rs w8 HF.out (HV.out.later (Below.next HB7.out (Nat.le_refl _) HB8.out)) (by omega)).mono ?_
    rintro e w9 ⟨rfl, hb9⟩
    rw [HRD.out, HA.out.free]
    have HB9 := Lib.hid (Below.next HB8.out (Nat.le_refl _) hb9)
    clear hb9 HB8
    dsimp only
    go_wp2_with fail
    refine (free_any ms _ rs w9 HMF.out (HM7.out.later HB9.out) (by omega)).mono ?_
    rintro e w10 ⟨rfl, hb10⟩
    rw [HRD.out, HA.out.held]
    have HB10 := Lib.hid (Below.next HB9.out (Nat.le_refl _) hb10)
    clear hb10 HB9
    dsimp only
    have hy7 := HS7.out.later HB10.out
    have hx7 := HX7.out.later HB10.out
    rw [HLY.out] at hy7
    have HY7 := Lib.hid hy7
    have HX8 := Lib.hid hx7
    clear hy7 hx7
    go_wp2_with fail
    refine (in_to true ys _ rs w10 (by have := HS7.out.later HB10.out; rw [HLY.out] at this; exact this) (by rw [HLY.out]; omega) (by rw [HRD.out]; exact HA.out.iny)).mono ?_
    rintro e w11 ⟨rfl, rfl⟩
    dsimp only
    go_wp2_with fail
    refine (in_to false xs _ rs _ HX8.out (by omega) (by rw [HRD.out]; exact HA.out.notx)).mono ?_
    rintro e w12 ⟨rfl, rfl⟩
    dsimp only
    go_wp2_with fail
    refine (alive_any w10 (HT.out.later (Below.next HB7.out (Nat.le_refl _) HB10.out))).mono ?_
    rintro e w13 ⟨rfl, hb13⟩
    go_wp2
    go_ret
    exact ⟨rfl, Below.next (Below.next HB7.out (Nat.le_refl _) HB10.out) (Nat.le_refl _) hb13⟩
end Go.Proofs.YtbbibngagdpdcaaDoor
