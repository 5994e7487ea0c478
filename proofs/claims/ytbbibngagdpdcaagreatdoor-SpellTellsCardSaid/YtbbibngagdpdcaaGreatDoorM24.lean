/-
  PROVED HERE: a part of the proof of the card 'SpellTellsCardSaid': what functions of the program, or of the document's packages, that SpellTells reaches compute (texts H3, H4, H5). CONDITIONS: each theorem's own.
-/
import Derived.Test.YtbbibngagdpdcaaGreatDoorM23
import Derived.Laws.AppendOwnNone
namespace Go.Proofs.YtbbibngagdpdcaaGreatDoor
open Go Go.RowKit
open Go.Shelf

/-- A LIST IN RISING ORDER, no text twice, of just the texts of M. -/
structure IsSet (out M : List (List UInt8)) : Prop where
  up : out.Pairwise fun a b => a < b
  mem : ∀ x, x ∈ out ↔ x ∈ M

theorem IsSet.nil : IsSet [] [] := ⟨List.Pairwise.nil, fun _ => Iff.rfl⟩

theorem IsSet.again {out M : List (List UInt8)} (h : IsSet out M) {x : List UInt8} (hx : x ∈ out) : IsSet out (M ++ [x]) :=
  ⟨h.up, fun y => by
    rw [h.mem, List.mem_append, List.mem_singleton]
    constructor
    · exact .inl
    · rintro (h1 | rfl)
      · exact h1
      · exact (h.mem _).1 hx⟩

theorem IsSet.insert {out M : List (List UInt8)} (h : IsSet out M) {x : List UInt8} (hx : x ∉ out) (at_ : Nat) (hhi : ∀ y ∈ out.drop at_, x < y) (hlo : ∀ y ∈ out.take at_, y < x) :
    IsSet (out.take at_ ++ [x] ++ out.drop at_) (M ++ [x]) := by
  have hp : (out.take at_ ++ out.drop at_).Pairwise fun a b => a < b := by rw [List.take_append_drop]; exact h.up
  obtain ⟨p1, p2, p3⟩ := List.pairwise_append.1 hp
  refine ⟨?_, fun y => ?_⟩
  · rw [List.append_assoc, List.pairwise_append]
    refine ⟨p1, ?_, ?_⟩
    · rw [List.singleton_append, List.pairwise_cons]
      exact ⟨hhi, p2⟩
    · intro a ha b hb
      rw [List.singleton_append, List.mem_cons] at hb
      rcases hb with rfl | hb
      · exact hlo a ha
      · exact p3 a ha b hb
  · rw [List.mem_append, List.mem_append, List.mem_append, ← h.mem]
    conv => rhs; rw [← List.take_append_drop at_ out, List.mem_append]
    constructor
    · rintro ((h1 | h1) | h1)
      · exact .inl (.inl h1)
      · exact .inr h1
      · exact .inl (.inr h1)
    · rintro ((h1 | h1) | h1)
      · exact .inl (.inl h1)
      · exact .inr h1
      · exact .inl (.inr h1)

theorem str_le_of_not_lt {a b : List UInt8} (h : ¬ b < a) : a ≤ b := List.not_lt.1 h

/-- WHERE THE LOOP STANDS STILL: all before are below. -/
theorem lower_all {out M : List (List UInt8)} (h : IsSet out M) {x : List UInt8} (hx : x ∉ out) (at_ : Nat) (hle : at_ ≤ out.length) (hst : ∀ hp : at_ - 1 < out.length, 0 < at_ → ¬ x < out[at_ - 1]) : ∀ y ∈ out.take at_, y < x := by
  intro y hy
  obtain ⟨j, hj, rfl⟩ := List.getElem_of_mem hy
  rw [List.length_take] at hj
  rw [List.getElem_take]
  have hpos : 0 < at_ := by omega
  have hlt : at_ - 1 < out.length := by omega
  have h1 : out[at_ - 1] ≤ x := str_le_of_not_lt (hst hlt hpos)
  have h2 : out[at_ - 1] ≠ x := fun e => hx (e ▸ List.getElem_mem _)
  have h3 : out[at_ - 1] < x := Decidable.byContradiction fun h4 => h2 (List.le_antisymm h1 (List.not_lt.1 h4))
  by_cases hj2 : j = at_ - 1
  · subst hj2; exact h3
  · exact List.lt_trans (List.pairwise_iff_getElem.1 h.up j (at_ - 1) (by omega) hlt (by omega)) h3

theorem IsSet.eq_taken {out : List (List UInt8)} {fs : List Fil} (h : IsSet out (fs.flatMap fun f => namesOf f.2)) : out = takenL fs := by
  have hnd : out.Nodup := h.up.imp (fun {a b} hab e => by subst e; exact List.lt_irrefl _ hab)
  have hp : out.Perm (takenL fs) := (List.perm_ext_iff_of_nodup hnd (taken_nodup fs)).2 fun x => by
    rw [h.mem, taken_mem, List.mem_flatMap]
  refine List.Perm.eq_of_pairwise (le := fun a b => a ≤ b) (fun a b _ _ h1 h2 => List.le_antisymm h1 h2) (h.up.imp (fun {a b} hab => List.le_of_lt hab)) (taken_sorted fs) hp
end Go.Proofs.YtbbibngagdpdcaaGreatDoor

namespace Go.Proofs.YtbbibngagdpdcaaGreatDoor
open Go Go.RowKit
open Go.Shelf

theorem freshIs_eq {fs : List Fil} {l r r' : List UInt8} {b b' : Bool} (h : FreshIs fs l r b) (h' : FreshIs fs l r' b') : r = r' ∧ b = b' := by
  rcases h with ⟨hk, hb, K, I, hF, hr⟩ | ⟨hk, hb, K, I, hF, hr⟩ | ⟨hk, hb, c, t, N, hl, hF, hr⟩ | ⟨h6, h7, h9, hb, hr⟩ <;>
    rcases h' with ⟨hk', hb', K', I', hF', hr'⟩ | ⟨hk', hb', K', I', hF', hr'⟩ | ⟨hk', hb', c', t', N', hl', hF', hr'⟩ | ⟨h6', h7', h9', hb', hr'⟩
  · obtain ⟨rfl, rfl⟩ := firstFree_eq hF hF'
    exact ⟨hr.trans hr'.symm, hb.trans hb'.symm⟩
  · omega
  · omega
  · exact absurd hk h6'
  · omega
  · obtain ⟨rfl, rfl⟩ := firstFree_eq hF hF'
    exact ⟨hr.trans hr'.symm, hb.trans hb'.symm⟩
  · omega
  · exact absurd hk h7'
  · omega
  · omega
  · rw [hl] at hl'
    cases hl'
    cases firstRep_eq hF hF'
    exact ⟨hr.trans hr'.symm, hb.trans hb'.symm⟩
  · exact absurd hk h9'
  · exact absurd hk' h6
  · exact absurd hk' h7
  · exact absurd hk' h9
  · exact ⟨hr.trans hr'.symm, hb.trans hb'.symm⟩

/-- THE CANDIDATES IN ONE ROW. -/
def candAt (sp : Int) (n : Nat) : List UInt8 := cand sp (n / 3) (n % 3)

/-- THE FIRST FREE OF THEM. -/
theorem firstFree_at (sp : Int) (zs : List (List UInt8)) (n : Nat) (hn : n < 3000000000) (hf : zs.contains (candAt sp n) = false) (ht : ∀ m, m < n → zs.contains (candAt sp m) = true) : FirstFree sp zs (n / 3) (n % 3) := by
  refine ⟨Nat.mod_lt _ (by omega), by omega, hf, fun k i hi hlt => ?_⟩
  have h := ht (k * 3 + i) (by omega)
  unfold candAt at h
  rwa [show (k * 3 + i) / 3 = k by omega, show (k * 3 + i) % 3 = i by omega] at h

/-- AMONG ONE MORE THAN THERE ARE TAKEN, ONE IS FREE. -/
theorem free_within (sp : Int) (zs : List (List UInt8)) : ∃ n, n ≤ zs.length ∧ zs.contains (candAt sp n) = false ∧ ∀ m, m < n → zs.contains (candAt sp m) = true := by
  obtain ⟨N, hN, hf⟩ := pigeon (candAt sp) zs.length (fun i j _ _ e => by
    obtain ⟨h1, h2⟩ := cand_inj sp (Nat.mod_lt _ (by omega)) (Nat.mod_lt _ (by omega)) e
    omega) zs (Nat.le_refl _)
  obtain ⟨n, h1, h2, h3⟩ := least (P := fun n => candAt sp n ∉ zs) N hf
  exact ⟨n, by omega, by simpa [List.contains_iff_mem] using h2, fun m hm => by simpa [List.contains_iff_mem] using h3 m hm⟩

/-- A NAME IS ONE THAT spell.Free TAKES. -/
theorem alike_self (l : List UInt8) : alikeL l l = namedB (kindL l) := by
  unfold alikeL namedB
  rw [if_neg (by simp)]
  by_cases h9 : kindL l = 9
  · rw [h9]; simp
  · by_cases h6 : kindL l = 6
    · rw [h6]; simp
    · by_cases h7 : kindL l = 7
      · rw [h7]; simp
      · rw [if_neg (by simpa using h9), if_neg (by simpa using h6), if_neg (by simpa using h7)]
        simp [h6, h7, h9]
end Go.Proofs.YtbbibngagdpdcaaGreatDoor

namespace Go.Proofs.YtbbibngagdpdcaaGreatDoor
open Go Go.RowKit
open Go.Shelf

theorem strs_cells {w : World} {b off : Nat} {zs : List (List UInt8)} (hc : ∀ j, j < zs.length → w.cell? ⟨b, off + j, none⟩ = some (strV (zs.getD j []))) (j : Nat) (u : Value)
    (hu : (zs.map strV)[j]? = some u) : w.cell? ((⟨b, off, none⟩ : Addr).add j) = some u := by
  have hadd : ((⟨b, off, none⟩ : Addr).add j) = ⟨b, off + j, none⟩ := by unfold Addr.add; split <;> simp_all
  have hjl : j < zs.length := by
    have := (List.getElem?_eq_some_iff.1 hu).1
    simpa using this
  rw [hadd, hc j hjl, ← hu]
  simp [List.getD, hjl]

set_option maxRecDepth 100000 in
/-- APPEND OF A LIST OF TEXTS, nil let in, onto a row of the call's own. -/
theorem wpList_append_strs (w : World) {ops : Array Oper} {rest : List Oper} {o : Oper} {a : Act} {Q : Exit → Act → World → Prop} (hgd : o.guard = none) (s x : Operand)
    (ho : o.op = .call { callee := .builtin .append, args := #[s, x], argTypes := #[35, 35] }) (base : Nat) (v : Value) (n : Nat) (xs : List Value) (hs : a.eval s = v) (hown : w.ownsRow base 9 1 v n xs)
    (zs : List (List UInt8)) (vx : Value) (hx : a.eval x = vx) (hfa : StrsAt w vx zs) (hnil : vx = .slice none 0 0 ∨ ∃ ad n c, vx = .slice (some ad) n c) (hbig : n + zs.length ≤ 1000000000) (hbase : base ≤ w.heap.size)
    (h : ∀ v' w', w'.ownsRow base 9 1 v' (n + zs.length) (xs ++ zs.map strV) → w.grownBy w' v.ownBlock → wpList Tryz.prog ops Q rest (a.put o.dst v') w') : wpList Tryz.prog ops Q (o :: rest) a w := by
  obtain ⟨i0, hi0, hz0, hz1, hz2⟩ := info_parts Tryz.infoStr
  have hml : n + zs.length ≤ maxLen := Nat.le_trans hbig (by unfold maxLen; omega)
  have h1c : ∀ u ∈ zs.map strV, u.oneCell' = true := by
    intro u hu
    obtain ⟨f, _, rfl⟩ := List.mem_map.1 hu
    rfl
  rcases hnil with rfl | ⟨ad, n', c', rfl⟩
  · obtain ⟨a', c, he, _⟩ := hfa
    have h0 : zs.length = 0 := by injection he with _ h2 _; exact h2.symm
    have hfs : zs = [] := List.eq_nil_of_length_eq_zero h0
    subst hfs
    refine wpList_append_own_none hgd s x 35 ho base 9 i0 1 Tryz.underlying35 hi0 v n xs hs hown hx ?_
    exact h v w (by simpa using hown) ⟨rfl, rfl, rfl, Nat.le_refl _, fun _ _ _ => rfl⟩
  · obtain ⟨a', c, he, hcs⟩ := hfa
    have hn' : n' = zs.length ∧ a' = some ad := by injection he with h1 h2 _; exact ⟨h2, h1.symm⟩
    obtain ⟨rfl, rfl⟩ := hn'
    refine wpList_append_own w hgd s x 35 ho base 9 i0 _ 1 16 Tryz.underlying35 hi0 hz0 hz1 hz2 rfl (by decide) v n xs hs hown ad zs.length c' (zs.map strV) hx (by simp) ?_ h1c hml (by omega) hbase (fun v' w' h2 h3 _ => h v' w' h2 h3)
    intro j u hu
    rcases hcs with rfl | ⟨b, off, hab, _, hc⟩
    · simp at hu
    · cases hab
      exact strs_cells hc j u hu

theorem empty_rowS (w : World) : (w.alloc (.cells #[] 9)).ownsRow w.heap.size 9 1 (.slice (some ⟨w.heap.size, 0, none⟩) 0 0) 0 [] :=
  ⟨by simp, .inr ⟨w.heap.size, 0, #[], rfl, Nat.le_refl _, heap_alloc_new w _, Nat.le_refl _, Nat.zero_le _, by simp, by simp⟩⟩

theorem strsAt_one (w : World) (y : ByteArray) : StrsAt (w.alloc (.cells #[.string y] 9)) (.slice (some ⟨w.heap.size, 0, none⟩) 1 1) [y.data.toList] := by
  refine ⟨_, _, rfl, .inr ⟨w.heap.size, 0, rfl, by simp, fun j hj => ?_⟩⟩
  match j, hj with
  | 0, _ => exact (new_cell _ _ _ _ _ rfl).trans (by rw [← strV_data y]; rfl)

/-- THE FIRST OF A ROW OF TEXTS. -/
theorem own_head {w : World} {base cap g : Nat} {zs : List (List UInt8)} (h : w.ownsRow base 9 1 (.slice (some ⟨g, 0, none⟩) zs.length cap) zs.length (zs.map strV)) (k : Nat) (hk : k ≤ zs.length) (c : Nat) :
    StrsAt w (.slice (some ⟨g, 0, none⟩) k c) (zs.take k) := by
  have hl : (zs.take k).length = k := by rw [List.length_take]; omega
  have hg : g < w.heap.size := (h.lt g rfl).2
  refine ⟨_, _, by rw [hl], .inr ⟨g, 0, rfl, hg, fun j hj => ?_⟩⟩
  rw [hl] at hj
  rw [Nat.zero_add, h.cellAt j (by omega)]
  simp [List.getD, show j < zs.length by omega, hj]

/-- .. AND THE REST OF IT. -/
theorem own_tail {w : World} {base cap g : Nat} {zs : List (List UInt8)} (h : w.ownsRow base 9 1 (.slice (some ⟨g, 0, none⟩) zs.length cap) zs.length (zs.map strV)) (k : Nat) (hk : k ≤ zs.length) (c : Nat) :
    StrsAt w (.slice (some ⟨g, k, none⟩) (zs.length - k) c) (zs.drop k) := by
  have hl : (zs.drop k).length = zs.length - k := by rw [List.length_drop]
  have hg : g < w.heap.size := (h.lt g rfl).2
  refine ⟨_, _, by rw [hl], .inr ⟨g, k, rfl, hg, fun j hj => ?_⟩⟩
  rw [hl] at hj
  rw [h.cellAt (k + j) (by omega)]
  simp [List.getD, show k + j < zs.length by omega]

/-- .. AND THE REST OF IT, as the walk spells the slice. -/
theorem own_rest {w : World} {base cap g : Nat} {zs : List (List UInt8)} (h : w.ownsRow base 9 1 (.slice (some ⟨g, 0, none⟩) zs.length cap) zs.length (zs.map strV)) (k : Nat) (hk : k ≤ zs.length) (c : Nat) :
    StrsAt w (.slice (if cap = k then some ⟨g, 0, none⟩ else some ⟨g, k, none⟩) (zs.length - k) c) (zs.drop k) ∧ ∃ ad n c', (.slice (if cap = k then some ⟨g, 0, none⟩ else some ⟨g, k, none⟩) (zs.length - k) c : Value) = .slice (some ad) n c' := by
  by_cases hc : cap = k
  · rw [if_pos hc]
    have hle : zs.length ≤ cap := by
      rcases h.2 with ⟨he, _⟩ | ⟨g', cap', cur, he, _, _, h1, _⟩
      · cases he
      · cases he
        exact h1
    have hd : zs.drop k = [] := List.drop_eq_nil_of_le (by omega)
    exact ⟨⟨_, _, by rw [List.length_drop], .inl hd⟩, _, _, _, rfl⟩
  · rw [if_neg hc]
    exact ⟨own_tail h k hk c, _, _, _, rfl⟩
end Go.Proofs.YtbbibngagdpdcaaGreatDoor
