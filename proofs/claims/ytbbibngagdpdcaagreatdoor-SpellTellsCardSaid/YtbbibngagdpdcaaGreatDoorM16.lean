/-
  PROVED HERE: a part of the proof of the card 'SpellTellsCardSaid': what functions of the program, or of the document's packages, that SpellTells reaches compute (texts F0, G0). CONDITIONS: each theorem's own.
-/
import Derived.Test.YtbbibngagdpdcaaGreatDoorM15
import Derived.Lib.ItoaLen
namespace Go.Proofs.YtbbibngagdpdcaaGreatDoor
open Go Go.RowKit
open Go.Shelf

/-! ### how long the names are, and how many -/

theorem spellFrom_len2 (fs : List Fil) : ∀ (F : Spell) (i : Nat), (spellFrom F i fs).length ≤ F.length + (fs.map fun f => f.2.size + 1).sum := by
  induction fs with
  | nil => intro F i; simp [spellFrom]
  | cons f r ih =>
    intro F i
    have h1 := ih (fileSpell F i f.2.data.toList (namesL f.2.data.toList)) (i + 1)
    have h2 := fileSpell_len F i f.2.data.toList (namesL f.2.data.toList)
    have h3 := names_len f.2.data.toList
    have h5 : f.2.data.toList.length = f.2.size := by simp
    rw [spellFrom, List.map_cons, List.sum_cons]
    omega

theorem weight_each {fs : List Fil} (h : weight fs ≤ 1500) : (fs.map fun f => f.2.size + 1).sum ≤ weight fs + fs.length := by
  induction fs with
  | nil => simp
  | cons f r ih =>
    have e : weight (f :: r) = fileWeight f + weight r := by simp [weight]
    have h1 := ih (by omega)
    rw [List.map_cons, List.sum_cons, List.length_cons]
    have h2 : f.2.size ≤ fileWeight f := by
      have : fileWeight f ≤ 1500 := by omega
      unfold fileWeight at this ⊢
      omega
    omega

theorem spell_small {fs : List Fil} (h : fewB fs = true) : (spellL fs).length ≤ 1504 := by
  simp only [fewB, Bool.and_eq_true, decide_eq_true_eq] at h
  obtain ⟨h1, h2⟩ := h
  rw [List.take_of_length_le (by omega)] at h2
  have h3 := spellFrom_len2 fs [] 0
  have h4 := weight_each h2
  have h5 : (spellFrom [] 0 fs).length = (spellL fs).length := rfl
  have h6 : ([] : Spell).length = 0 := rfl
  omega

/-! ### a name with a blank before it and a blank behind it -/

theorem runL_all (p : Int → Bool) (l : List UInt8) (b : UInt8) (h : allB p l = true) (hb : p b.toNat = false) : runL p (l ++ [b]) = l.length := by
  induction l with
  | nil => simp [runL, hb]
  | cons c r ih =>
    have h1 : p c.toNat = true ∧ allB p r = true := by simpa [allB] using h
    rw [List.cons_append, runL, if_pos h1.1, ih h1.2, List.length_cons]

theorem all_bytes {p : UInt8 → Prop} (h : ∀ n : Fin 256, p (UInt8.ofNat n.val)) (c : UInt8) : p c := by
  have := h ⟨c.toNat, c.toNat_lt⟩
  simpa using this

theorem blank_not {c : UInt8} (h : signB c.toNat = true ∨ restB c.toNat = true) : blankB c.toNat = false := by
  have h' : ∀ c : UInt8, (signB c.toNat || restB c.toNat) = true → blankB c.toNat = false := all_bytes (by decide +kernel)
  exact h' c (by simpa using h)

theorem quote_not {c : UInt8} (h : signB c.toNat = true ∨ restB c.toNat = true) : ((c.toNat : Int) == 34) = false := by
  have h' : ∀ c : UInt8, (signB c.toNat || restB c.toNat) = true → ((c.toNat : Int) == 34) = false := all_bytes (by decide +kernel)
  exact h' c (by simpa using h)

theorem note_not {c : UInt8} {t : List UInt8} (h : signB c.toNat = true ∨ restB c.toNat = true) : Lib.hasPrefix (c :: t) [40, 42] = false := by
  have h' : ∀ c : UInt8, (signB c.toNat || restB c.toNat) = true → (40 == c) = false := all_bytes (by decide +kernel)
  have h2 := h' c (by simpa using h)
  simp [Lib.hasPrefix, List.isPrefixOf, h2]

theorem digit_not {c : UInt8} (h : signB c.toNat = true) : digitB c.toNat = false := by
  have h' : ∀ c : UInt8, signB c.toNat = true → digitB c.toNat = false := all_bytes (by decide +kernel)
  exact h' c h

/-- A WORD OF ONE TOKEN. -/
structure OneTok (r : List UInt8) : Prop where
  ex : ∃ c t, r = c :: t ∧ ((signB c.toNat = true ∧ allB signB r = true) ∨ (signB c.toNat = false ∧ digitB c.toNat = false ∧ restB c.toNat = true ∧ allB restB r = true))
  named : namedB (kindL r) = true
  sure : kindL r ≠ 0

theorem one_first (r : List UInt8) (h : OneTok r) : tok (32 :: (r ++ [32])) 0 = (1, 1) := by
  obtain ⟨c, t, rfl, hc⟩ := h.ex
  have hb := blank_not (c := c) (by rcases hc with h | h; exact .inl h.1; exact .inr h.2.2.1)
  have hb32 : blankB (32 : UInt8).toNat = true := by decide
  unfold tok
  rw [List.drop_zero]
  dsimp only
  rw [if_pos hb32, runL, if_pos hb32, List.cons_append, runL, if_neg (by rw [hb]; decide)]

theorem one_mid (r : List UInt8) (h : OneTok r) : tok (32 :: (r ++ [32])) 1 = (kindL r, 1 + r.length) := by
  obtain ⟨c, t, hr, hc⟩ := h.ex
  have hsr : signB c.toNat = true ∨ restB c.toNat = true := by rcases hc with h | h; exact .inl h.1; exact .inr h.2.2.1
  have hk : badOr (kindL r) = kindL r := by rw [badOr, if_neg]; simpa using h.sure
  unfold tok
  rw [show List.drop 1 (32 :: (r ++ [32])) = c :: (t ++ [32]) by rw [hr]; rfl]
  have hrr : c :: (t ++ [32]) = r ++ [32] := by rw [hr]; rfl
  dsimp only
  rw [if_neg (by rw [blank_not hsr]; decide), if_neg (by rw [note_not hsr]; decide), if_neg (by rw [quote_not hsr]; decide)]
  rcases hc with ⟨h1, h2⟩ | ⟨h1, h2, h3, h4⟩
  · rw [if_neg (by rw [digit_not h1]; decide), if_pos h1, hrr, runL_all signB r 32 h2 (by decide), List.take_left' rfl, hk]
  · rw [if_neg (by rw [h2]; decide), if_neg (by rw [h1]; decide), if_pos h3, hrr, runL_all restB r 32 h4 (by decide), List.take_left' rfl, hk]

theorem one_last (r : List UInt8) : tok (32 :: (r ++ [32])) (1 + r.length) = (1, 1 + r.length + 1) := by
  have hb32 : blankB (32 : UInt8).toNat = true := by decide
  unfold tok
  rw [show List.drop (1 + r.length) (32 :: (r ++ [32])) = [32] by rw [Nat.add_comm, List.drop_succ_cons, List.drop_left' rfl]]
  dsimp only
  rw [if_pos hb32, runL, if_pos hb32, runL]

theorem one_names (r : List UInt8) (h : OneTok r) : namesL (32 :: (r ++ [32])) = [(kindL r, 1, 1 + r.length)] := by
  have hpos : 0 < r.length := by obtain ⟨c, t, rfl, _⟩ := h.ex; simp
  have hlen : (32 :: (r ++ [32]) : List UInt8).length = r.length + 2 := by simp
  obtain ⟨L, hL⟩ : ∃ L, (32 :: (r ++ [32]) : List UInt8) = L := ⟨_, rfl⟩
  have e0 := one_first r h
  have e1 := one_mid r h
  have e2 := one_last r
  rw [hL] at e0 e1 e2 hlen ⊢
  obtain ⟨n, hn⟩ : ∃ n, r.length = n + 1 := ⟨r.length - 1, by omega⟩
  have hs : scanL L = [(1, 0, 1), (kindL r, 1, 1 + r.length), (1, 1 + r.length, 1 + r.length + 1), (0, L.length, L.length)] := by
    unfold scanL
    rw [show L.length + 1 = (((n + 1) + 1) + 1) + 1 by omega]
    rw [scanGo, if_pos (by omega), e0]
    dsimp only
    rw [scanGo, if_pos (by omega), e1]
    dsimp only
    rw [scanGo, if_pos (by omega), e2]
    dsimp only
    rw [scanGo, if_neg (by omega)]
  rw [namesL, hs]
  have n1 : namedB 1 = false := by decide
  have n0 : namedB 0 = false := by decide
  have nk := h.named
  simp only [List.filter_cons, namedT, n1, n0, nk, if_true, Bool.false_eq_true, if_false, List.filter_nil]

/-- THE FILE THAT SPELLS ONE NAME MORE. -/
def oneF (r : List UInt8) : Fil := (⟨#[]⟩, ⟨(32 :: (r ++ [32])).toArray⟩)

theorem one_namesOf (r : List UInt8) (h : OneTok r) : namesOf (oneF r).2 = [r] := by
  have e : (oneF r).2.data.toList = 32 :: (r ++ [32]) := rfl
  rw [namesOf, e, one_names r h]
  simp only [List.map_cons, List.map_nil, sub]
  rw [List.drop_succ_cons, List.drop_zero, show 1 + r.length - 1 = r.length by omega, List.take_left' rfl]

/-! ### what is fresh is one token -/

theorem dec_digits (u : Nat) : ∀ b ∈ Lib.decDigits u, digitB b.toNat = true := by
  induction u using Nat.strongRecOn with
  | ind u ih =>
    have hd : ∀ i, i < 10 → digitB (UInt8.ofNat (48 + i)).toNat = true := by decide +kernel
    intro b hb
    rw [Lib.decDigits] at hb
    split at hb
    · rename_i h
      simp only [List.mem_singleton] at hb
      subst hb
      exact hd u h
    · rcases List.mem_append.1 hb with hb | hb
      · exact ih (u / 10) (by omega) b hb
      · simp only [List.mem_singleton] at hb
        subst hb
        exact hd _ (Nat.mod_lt _ (by omega))

theorem cand_rest (K : Nat) : ∀ b ∈ (if K = 0 then [] else Lib.itoa (K : Int)), restB b.toNat = true := by
  intro b hb
  split at hb
  · simp at hb
  · have hp : Lib.itoa (K : Int) = Lib.decDigits K := by
      unfold Lib.itoa
      rw [if_neg (by omega)]; simp
    rw [hp] at hb
    have := dec_digits K b hb
    simp [restB, this]

theorem cand_len (sp : Int) (K I : Nat) (hK : K < 1000000000) : (cand sp K I).length ≤ 30 := by
  have h := Lib.itoa_length_le (K : Int) (by omega) (by omega)
  unfold cand
  rw [List.length_cons]
  split
  · simp
  · omega

theorem kw_heads : kwTab.all (fun w => match w with | [] => false | c :: _ => !(c == 120 || c == 121 || c == 122)) = true := by decide +kernel

theorem kw_not (c : UInt8) (t : List UInt8) (h : c = 120 ∨ c = 121 ∨ c = 122) : keywordB (c :: t) = false := by
  unfold keywordB
  rw [Bool.eq_false_iff]
  intro hc
  have hm : (c :: t) ∈ kwTab := by simpa using hc
  have := List.all_eq_true.1 kw_heads _ hm
  rcases h with rfl | rfl | rfl <;> simp at this

theorem mark_not (c : UInt8) (t : List UInt8) (h : smallB c.toNat = true ∨ greatB c.toNat = true) : markB (c :: t) = false := by
  have h' : ∀ c : UInt8, (smallB c.toNat || greatB c.toNat) = true → (c == 61 || c == 124 || c == 58 || c == 45 || ([40, 41, 44, 46, 59, 95] : List UInt8).contains c) = false := all_bytes (by decide +kernel)
  have h2 := h' c (by simpa using h)
  simp only [Bool.or_eq_false_iff, beq_eq_false_iff_ne] at h2
  obtain ⟨⟨⟨⟨a1, a2⟩, a3⟩, a4⟩, a5⟩ := h2
  have hone : oneMark (c :: t) = false := by
    cases t with
    | nil => exact a5
    | cons d u => exact oneMark_short _ (by simp)
  rw [markB, hone, Bool.or_false]
  unfold reservedB
  have d : ∀ (a : UInt8) (u : List UInt8), c ≠ a → decide (c :: t = a :: u) = false := fun a u hne => decide_eq_false (fun e => hne (by injection e))
  rw [d 61 [] a1, d 61 [62] a1, d 124 [] a2, d 58 [] a3, d 58 [62] a3, d 45 [62] a4]
  rfl

theorem letter_facts {c : UInt8} (h : smallB c.toNat = true ∨ greatB c.toNat = true) : signB c.toNat = false ∧ digitB c.toNat = false ∧ restB c.toNat = true ∧ decide (c = 39) = false := by
  have h' : ∀ c : UInt8, (smallB c.toNat || greatB c.toNat) = true → (!signB c.toNat && !digitB c.toNat && restB c.toNat && !decide (c = 39)) = true := all_bytes (by decide +kernel)
  have h2 := h' c (by simpa using h)
  simp only [Bool.and_eq_true, Bool.not_eq_true'] at h2
  exact ⟨h2.1.1.1, h2.1.1.2, h2.1.2, h2.2⟩

theorem kind_low (c : UInt8) (t : List UInt8) (h : c = 120 ∨ c = 121 ∨ c = 122) (ht : allB restB t = true) : kindL (c :: t) = 6 := by
  have hs : smallB c.toNat = true := by rcases h with rfl | rfl | rfl <;> decide
  have hg : greatB c.toNat = false := by rcases h with rfl | rfl | rfl <;> decide
  obtain ⟨f1, f2, f3, f4⟩ := letter_facts (.inl hs)
  have hall : allB restB (c :: t) = true := by
    unfold allB at ht ⊢
    rw [List.all_cons, f3, ht]; rfl
  rw [kindL, if_neg (by simp), if_neg (by rw [mark_not c t (.inl hs)]; decide), kindRest.eq_def]
  dsimp only
  rw [f1, f4, hs, hall, hg, kw_not c t h]
  simp

theorem kind_high (c : UInt8) (t : List UInt8) (h : c = 88 ∨ c = 89 ∨ c = 90) (ht : allB restB t = true) : kindL (c :: t) = 7 := by
  have hg : greatB c.toNat = true := by rcases h with rfl | rfl | rfl <;> decide
  obtain ⟨f1, f2, f3, f4⟩ := letter_facts (.inr hg)
  have hall : allB restB (c :: t) = true := by
    unfold allB at ht ⊢
    rw [List.all_cons, f3, ht]; rfl
  rw [kindL, if_neg (by simp), if_neg (by rw [mark_not c t (.inr hg)]; decide), kindRest.eq_def]
  dsimp only
  rw [f1, f4, hall, hg]
  simp

theorem cand_allB (K : Nat) : allB restB (if K = 0 then [] else Lib.itoa (K : Int)) = true := by
  unfold allB
  rw [List.all_eq_true]
  exact cand_rest K

theorem cand_kind_1 (K I : Nat) : kindL (cand 1 K I) = 6 := by
  unfold cand
  refine kind_low _ _ ?_ (cand_allB K)
  unfold letter
  rw [if_pos rfl]
  by_cases h0 : I = 0
  · rw [if_pos h0]; exact .inl rfl
  · rw [if_neg h0]
    by_cases h1 : I = 1
    · rw [if_pos h1]; exact .inr (.inl rfl)
    · rw [if_neg h1]; exact .inr (.inr rfl)

theorem cand_kind_4 (K I : Nat) : kindL (cand 4 K I) = 7 := by
  unfold cand
  refine kind_high _ _ ?_ (cand_allB K)
  unfold letter
  rw [if_neg (by decide)]
  by_cases h0 : I = 0
  · rw [if_pos h0]; exact .inl rfl
  · rw [if_neg h0]
    by_cases h1 : I = 1
    · rw [if_pos h1]; exact .inr (.inl rfl)
    · rw [if_neg h1]; exact .inr (.inr rfl)

theorem letter_is (sp : Int) (I : Nat) : smallB (letter sp I).toNat = true ∨ greatB (letter sp I).toNat = true := by
  unfold letter
  repeat' split
  all_goals decide

theorem cand_tok (sp : Int) (K I : Nat) (hk : namedB (kindL (cand sp K I)) = true) (h0 : kindL (cand sp K I) ≠ 0) : OneTok (cand sp K I) := by
  obtain ⟨f1, f2, f3, f4⟩ := letter_facts (letter_is sp I)
  refine ⟨⟨_, _, rfl, .inr ⟨f1, f2, f3, ?_⟩⟩, hk, h0⟩
  have := cand_allB K
  unfold allB at this ⊢
  rw [cand, List.all_cons, f3, this]
  rfl

theorem rep_tok (c : UInt8) (N : Nat) (hc : signB c.toNat = true) (hN : 2 ≤ N) : OneTok (List.replicate N c) := by
  have hk := kind_rep c hc N hN
  obtain ⟨m, rfl⟩ : ∃ m, N = m + 1 := ⟨N - 1, by omega⟩
  refine ⟨⟨c, List.replicate m c, rfl, .inl ⟨hc, ?_⟩⟩, by rw [hk]; decide, by rw [hk]; decide⟩
  unfold allB
  rw [List.all_eq_true]
  intro x hx
  rw [List.eq_of_mem_replicate hx]
  exact hc

/-- WHAT IS FRESH, THE LAW OVER. -/
structure FreshLaw (fs : List Fil) (l r : List UInt8) : Prop where
  alike : alikeL r l = true
  self : alikeL r r = true
  free : r ∉ takenL fs
  one : OneTok r
  small : r.length ≤ 2000

theorem not_taken {fs : List Fil} {r : List UInt8} (h : getP (spellL fs) r = []) : r ∉ takenL fs := fun hm => (taken_places fs r).1 hm h

theorem fresh_law {fs : List Fil} (hf : fewB fs = true) {l r : List UInt8} (h : FreshIs fs l r true) : FreshLaw fs l r := by
  rcases h with ⟨hk, _, K, I, hF, rfl⟩ | ⟨hk, _, K, I, hF, rfl⟩ | ⟨hk, _, c, t, N, hl, hF, rfl⟩ | ⟨_, _, _, hb, _⟩
  · have h1 := cand_kind_1 K I
    refine ⟨by rw [alikeL, h1, hk]; simp, by rw [alikeL, h1]; simp, by simpa [List.contains_iff_mem] using hF.free, cand_tok 1 K I (by rw [h1]; decide) (by rw [h1]; decide), Nat.le_trans (cand_len 1 K I hF.small) (by omega)⟩
  · have h1 := cand_kind_4 K I
    refine ⟨by rw [alikeL, h1, hk]; simp, by rw [alikeL, h1]; simp, by simpa [List.contains_iff_mem] using hF.free, cand_tok 4 K I (by rw [h1]; decide) (by rw [h1]; decide), Nat.le_trans (cand_len 4 K I hF.small) (by omega)⟩
  · obtain ⟨c', t', he, hc⟩ := kind_sign_head hk
    rw [hl] at he
    cases he
    have h1 := kind_rep c hc N hF.two
    have h2 := spell_small hf
    have h3 := hF.small
    refine ⟨alike_rep hl hk N hF.two, ?_, not_taken hF.free, rep_tok c N hc hF.two, by rw [List.length_replicate]; omega⟩
    rw [alikeL, h1]
    simp
  · cases hb

theorem fresh_none_law {fs : List Fil} {l r : List UInt8} (h : FreshIs fs l r false) : r = [] ∧ alikeL l l = false := by
  rcases h with ⟨_, hb, _⟩ | ⟨_, hb, _⟩ | ⟨_, hb, _⟩ | ⟨h6, h7, h9, _, hr⟩
  · cases hb
  · cases hb
  · cases hb
  · refine ⟨hr, ?_⟩
    rw [alikeL, if_neg (by simp), if_neg (by simpa using h9), if_neg (by simpa using h6), if_neg (by simpa using h7)]

theorem more_mem (fs : List Fil) (r : List UInt8) (h : OneTok r) (x : List UInt8) : x ∈ takenL (fs ++ [oneF r]) ↔ x = r ∨ x ∈ takenL fs := by
  rw [taken_mem, taken_mem]
  constructor
  · rintro ⟨f, hf, hx⟩
    rcases List.mem_append.1 hf with hf | hf
    · exact .inr ⟨f, hf, hx⟩
    · simp only [List.mem_singleton] at hf
      subst hf
      rw [one_namesOf r h] at hx
      exact .inl (by simpa using hx)
  · rintro (rfl | ⟨f, hf, hx⟩)
    · exact ⟨oneF x, by simp, by rw [one_namesOf x h]; simp⟩
    · exact ⟨f, by simp [hf], hx⟩

theorem more_len {fs : List Fil} {r : List UInt8} (h : OneTok r) (hn : r ∉ takenL fs) : (takenL (fs ++ [oneF r])).length = (takenL fs).length + 1 := by
  have hp : (takenL (fs ++ [oneF r])).Perm (r :: takenL fs) := (List.perm_ext_iff_of_nodup (taken_nodup _) (List.nodup_cons.2 ⟨hn, taken_nodup fs⟩)).2 fun x => by
    rw [more_mem fs r h, List.mem_cons]
  rw [hp.length_eq, List.length_cons]

theorem more_few {fs : List Fil} {r : List UInt8} (h : Few fs) (hm : fs.length ≤ 4) (hr : r.length ≤ 2000) : Few (fs ++ [oneF r]) := by
  refine ⟨by simp; omega, fun f hf => ?_⟩
  rcases List.mem_append.1 hf with hf | hf
  · exact h.long f hf
  · simp only [List.mem_singleton] at hf
    subst hf
    show (32 :: (r ++ [32]) : List UInt8).length ≤ _
    simp
    omega
end Go.Proofs.YtbbibngagdpdcaaGreatDoor

namespace Go.Proofs.YtbbibngagdpdcaaGreatDoor
open Go Go.RowKit
open Go.Shelf

/-! ### the document's own classes of bytes -/

theorem rSmall_any (c : Int) (w : World) : Calls Tryz.prog 28 #[.int .u8 c] w fun e w' => e = .returned (.bool (smallB c)) ∧ w = w' := by
  go_enter Tryz.func28, Tryz.ntmps28
  go_wp2
  all_goals go_ret; exact ⟨ret_bool (by rw [Bool.eq_iff_iff]; simp [smallB]; omega), rfl⟩

theorem rGreat_any (c : Int) (w : World) : Calls Tryz.prog 27 #[.int .u8 c] w fun e w' => e = .returned (.bool (greatB c)) ∧ w = w' := by
  go_enter Tryz.func27, Tryz.ntmps27
  go_wp2
  all_goals go_ret; exact ⟨ret_bool (by rw [Bool.eq_iff_iff]; simp [greatB]; omega), rfl⟩

theorem rDigit_any (c : Int) (w : World) : Calls Tryz.prog 74 #[.int .u8 c] w fun e w' => e = .returned (.bool (digitB c)) ∧ w = w' := by
  go_enter Tryz.func74, Tryz.ntmps74
  go_wp2
  all_goals go_ret; exact ⟨ret_bool (by rw [Bool.eq_iff_iff]; simp [digitB]; omega), rfl⟩

theorem rBlank_any (c : Int) (w : World) : Calls Tryz.prog 71 #[.int .u8 c] w fun e w' => e = .returned (.bool (blankB c)) ∧ w = w' := by
  go_enter Tryz.func71, Tryz.ntmps71
  go_wp2
  all_goals go_ret
  all_goals exact ⟨ret_bool (by rw [Bool.eq_iff_iff]; simp [blankB]; omega), rfl⟩

theorem rRest_any (c : Int) (w : World) : Calls Tryz.prog 25 #[.int .u8 c] w fun e w' => e = .returned (.bool (restB c)) ∧ w = w' := by
  go_enter Tryz.func25, Tryz.ntmps25
  go_wp2_with (first | (go_at_call 28; refine (rSmall_any _ _).mono ?_; rintro e w' ⟨rfl, rfl⟩) | (go_at_call 27; refine (rGreat_any _ _).mono ?_; rintro e w' ⟨rfl, rfl⟩))
  all_goals go_ret
  all_goals exact ⟨ret_bool (by simp_all [restB, digitB] <;> rw [Bool.eq_iff_iff] <;> simp <;> omega), rfl⟩

theorem rNamed_any (K : Int) (w : World) : Calls Tryz.prog 48 #[.int .i64 K] w fun e w' => e = .returned (.bool (namedB K)) ∧ w = w' := by
  go_enter Tryz.func48, Tryz.ntmps48
  go_wp2
  all_goals go_ret
  all_goals exact ⟨ret_bool (by simp_all [namedB] <;> rw [Bool.eq_iff_iff] <;> simp <;> omega), rfl⟩

/-- THE DOCUMENT's LIST OF SIGNS, but two. -/
def docSigns : List UInt8 := [33, 37, 38, 36, 35, 43, 45, 47, 58, 60, 61, 62, 63, 64, 94, 124, 42, 126]

theorem byte_back (d : UInt8) : (d.toNat : Int).toNat.toUInt8 = d := by simp

theorem sign_doc (d : UInt8) : signB d.toNat = (docSigns.contains d || (decide ((d.toNat : Int) = 92) || decide ((d.toNat : Int) = 96))) := by
  have e92 : decide ((d.toNat : Int) = 92) = (d == 92) := by
    rw [Bool.eq_iff_iff]; simp [← UInt8.toNat_inj]; omega
  have e96 : decide ((d.toNat : Int) = 96) = (d == 96) := by
    rw [Bool.eq_iff_iff]; simp [← UInt8.toNat_inj]; omega
  rw [signB, byte_back, e92, e96, Bool.eq_iff_iff]
  simp only [signBytes, docSigns, List.contains_iff_mem, List.mem_cons, List.not_mem_nil, or_false, Bool.or_eq_true, beq_iff_eq]
  constructor
  · rintro (h|h|h|h|h|h|h|h|h|h|h|h|h|h|h|h|h|h|h|h) <;> subst h <;> decide
  · rintro ((h|h|h|h|h|h|h|h|h|h|h|h|h|h|h|h|h|h) | (h|h)) <;> subst h <;> decide

theorem rSigns_any (d : UInt8) (w : World) : Calls Tryz.prog 26 #[.int .u8 (d.toNat : Int)] w fun e w' => e = .returned (.bool (signB d.toNat)) ∧ w = w' := by
  obtain ⟨B, hB⟩ : ∃ B, signB (d.toNat : Int) = B := ⟨_, rfl⟩
  have hs := sign_doc d
  rw [hB] at hs ⊢
  have HS := Lib.hid hs
  clear hs hB
  go_enter Tryz.func26, Tryz.ntmps26
  go_wp2
  obtain ⟨S, hS⟩ : ∃ S : ByteArray, (⟨#[33, 37, 38, 36, 35, 43, 45, 47, 58, 60, 61, 62, 63, 64, 94, 124, 42, 126]⟩ : ByteArray) = S := ⟨_, rfl⟩
  have hsz : S.size = 18 := by rw [← hS]; rfl
  have hdl : S.data.toList = docSigns := by rw [← hS]; rfl
  rw [hS]
  have HD := Lib.hid hdl
  clear hS hdl
  go_loopg [4] 18 (fun g s4 wr => ∃ i : Nat, s4 = .int .i64 i ∧ i ≤ 18 ∧ 18 - i ≤ g ∧ wr = w ∧ Hid (∀ j (h : j < S.size), j < i → S[j] ≠ d))
  case atStart => exact ⟨0, rfl, by omega, Nat.le_refl _, rfl, fun j h hj => by omega⟩
  case round =>
    obtain ⟨i, rfl, hi, hg, rfl, hn⟩ := hrel
    by_cases hlt : i < S.size
    · have hlz : (i : Int) < (S.size : Int) := by omega
      by_cases he : S[i] = d
      · have hr : Hid (B = true) := by
          rw [Hid, HS.out]
          have hm : d ∈ docSigns := by
            rw [← HD.out, ← he]
            exact List.getElem_mem (by simpa using hlt : i < S.data.toList.length)
          simp [hm]
        have hd : ((S[i].toNat : Int) == (d.toNat : Int)) = true := by rw [he]; simp
        clear hn
        go_wp2
        go_ret
        exact ⟨ret_bool hr.out.symm, rfl⟩
      · have hd : ((S[i].toNat : Int) == (d.toNat : Int)) = false := by
          rw [beq_eq_false_iff_ne]
          intro h
          exact he (UInt8.toNat_inj.1 (by omega))
        have hn2 : Hid (∀ j (h : j < S.size), j < i + 1 → S[j] ≠ d) := fun j h hj => by
          by_cases hji : j = i
          · subst hji; exact he
          · exact hn.out j h (by omega)
        clear hn he
        go_wp2
        go_roundg (18 - (i + 1))
        case measure => omega
        case rel => exact ⟨i + 1, by go_num, by omega, Nat.le_refl _, rfl, hn2⟩
    · have hr : Hid (docSigns.contains d = false) := by
        rw [Hid, ← HD.out, Bool.eq_false_iff]
        intro h
        have hm : d ∈ S.data.toList := by simpa using h
        obtain ⟨j, hj, hje⟩ := List.getElem_of_mem hm
        have hj' : j < S.size := by simpa using hj
        exact hn.out j hj' (by omega) hje
      have hge : ¬ (i : Int) < (S.size : Int) := by omega
      clear hn
      by_cases e1 : (d.toNat : Int) = 92
      · go_wp2
        go_ret
        exact ⟨ret_bool (by rw [HS.out, hr.out, decide_eq_true e1]; rfl), rfl⟩
      · by_cases e2 : (d.toNat : Int) = 96
        · go_wp2
          go_ret
          exact ⟨ret_bool (by rw [HS.out, hr.out, decide_eq_true e2]; simp), rfl⟩
        · go_wp2
          go_ret
          exact ⟨ret_bool (by rw [HS.out, hr.out, decide_eq_false e1, decide_eq_false e2, beq_eq_false_iff_ne.2 e1, beq_eq_false_iff_ne.2 e2]; rfl), rfl⟩
end Go.Proofs.YtbbibngagdpdcaaGreatDoor
