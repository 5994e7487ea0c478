/-
  PROVED HERE: a part of the proof of the card 'SpellTellsCardSaid': what functions of the program, or of the document's packages, that SpellTells reaches compute (texts D5, D6). CONDITIONS: each theorem's own.
-/
import Derived.Test.YtbbibngagdpdcaaGreatDoorM12
namespace Go.Proofs.YtbbibngagdpdcaaGreatDoor
open Go Go.RowKit
open Go.Shelf

def digVal (l : List UInt8) : Nat := l.foldl (fun n d => n * 10 + (d.toNat - 48)) 0

theorem digVal_dec (u : Nat) : digVal (Lib.decDigits u) = u := by
  induction u using Nat.strongRecOn with
  | ind u ih =>
    rw [Lib.decDigits]
    split
    · rename_i h
      simp only [digVal, List.foldl_cons, List.foldl_nil, UInt8.toNat_ofNat']
      omega
    · rename_i h
      have h1 := ih (u / 10) (by omega)
      unfold digVal at h1
      rw [digVal, List.foldl_append, h1]
      simp only [List.foldl_cons, List.foldl_nil, UInt8.toNat_ofNat']
      omega

theorem dec_inj {a b : Nat} (h : Lib.decDigits a = Lib.decDigits b) : a = b := by rw [← digVal_dec a, ← digVal_dec b, h]

theorem pigeon {α : Type} [DecidableEq α] (f : Nat → α) : ∀ (N : Nat) (_ : ∀ i j, i ≤ N → j ≤ N → f i = f j → i = j) (l : List α) (_ : l.length ≤ N), ∃ n, n ≤ N ∧ f n ∉ l
  | 0, _, l, h => ⟨0, Nat.le_refl _, by have e : l = [] := List.eq_nil_of_length_eq_zero (by omega); subst e; simp⟩
  | N + 1, inj, l, h => by
    by_cases hm : f (N + 1) ∈ l
    · obtain ⟨n, hn, hf⟩ := pigeon f N (fun i j hi hj e => inj i j (by omega) (by omega) e) (l.erase (f (N + 1))) (by rw [List.length_erase_of_mem hm]; omega)
      refine ⟨n, by omega, fun h2 => hf ((List.mem_erase_of_ne ?_).2 h2)⟩
      intro e
      have := inj n (N + 1) (by omega) (Nat.le_refl _) e
      omega
    · exact ⟨N + 1, Nat.le_refl _, hm⟩

theorem least {P : Nat → Prop} : ∀ (N : Nat), P N → ∃ n, n ≤ N ∧ P n ∧ ∀ m, m < n → ¬ P m := by
  intro N
  induction N using Nat.strongRecOn with
  | ind N ih =>
    intro h
    by_cases hm : ∃ m, m < N ∧ P m
    · obtain ⟨m, h1, h2⟩ := hm
      obtain ⟨n, h3, h4⟩ := ih m h1 h2
      exact ⟨n, by omega, h4⟩
    · exact ⟨N, Nat.le_refl _, h, fun m h1 h2 => hm ⟨m, h1, h2⟩⟩

theorem letter_inj (sp : Int) {i j : Nat} (hi : i < 3) (hj : j < 3) (h : letter sp i = letter sp j) : i = j := by
  unfold letter at h
  match i, hi, j, hj with
  | 0, _, 0, _ | 1, _, 1, _ | 2, _, 2, _ => rfl
  | 0, _, 1, _ | 0, _, 2, _ | 1, _, 0, _ | 1, _, 2, _ | 2, _, 0, _ | 2, _, 1, _ =>
    exfalso
    revert h
    by_cases hs : sp = 1 <;> simp [hs]

theorem cand_inj (sp : Int) {k k' i i' : Nat} (hi : i < 3) (hi' : i' < 3) (h : cand sp k i = cand sp k' i') : k = k' ∧ i = i' := by
  unfold cand at h
  injection h with h1 h2
  refine ⟨?_, letter_inj sp hi hi' h1⟩
  have hp : ∀ n : Nat, Lib.itoa (n : Int) = Lib.decDigits n := fun n => by
    unfold Lib.itoa
    rw [if_neg (by omega)]; simp
  have hne : ∀ n : Nat, Lib.decDigits n ≠ [] := fun n e => by
    have := congrArg List.length e
    rw [Lib.decDigits] at this
    split at this <;> simp at this
  by_cases h0 : k = 0 <;> by_cases h0' : k' = 0
  · omega
  · rw [if_pos h0, if_neg h0', hp] at h2
    exact absurd h2.symm (hne _)
  · rw [if_neg h0, if_pos h0', hp] at h2
    exact absurd h2 (hne _)
  · rw [if_neg h0, if_neg h0', hp, hp] at h2
    exact dec_inj h2

/-- AMONG ENOUGH CANDIDATES ONE IS FREE. -/
theorem firstFree_ex (sp : Int) (zs : List (List UInt8)) (hz : zs.length ≤ 100000000) : ∃ K I, FirstFree sp zs K I := by
  obtain ⟨N, hN, hf⟩ := pigeon (fun n => cand sp (n / 3) (n % 3)) zs.length (fun i j _ _ e => by
    obtain ⟨h1, h2⟩ := cand_inj sp (Nat.mod_lt _ (by omega)) (Nat.mod_lt _ (by omega)) e
    omega) zs (Nat.le_refl _)
  obtain ⟨n, h1, h2, h3⟩ := least (P := fun n => cand sp (n / 3) (n % 3) ∉ zs) N hf
  refine ⟨n / 3, n % 3, Nat.mod_lt _ (by omega), by omega, ?_, ?_⟩
  · simpa [List.contains_iff_mem] using h2
  · intro k i hi hlt
    have h4 := h3 (k * 3 + i) (by omega)
    have e1 : (k * 3 + i) / 3 = k := by omega
    have e2 : (k * 3 + i) % 3 = i := by omega
    rw [e1, e2] at h4
    simpa [List.contains_iff_mem] using h4

/-- HOW OFTEN spell.Fresh SETS A SIGN. -/
structure FirstRep (F : Spell) (c : UInt8) (N : Nat) : Prop where
  two : 2 ≤ N
  small : N ≤ F.length + 2
  free : getP F (List.replicate N c) = []
  taken : ∀ m, 2 ≤ m → m < N → getP F (List.replicate m c) ≠ []

theorem getP_mem (F : Spell) (k : List UInt8) (h : getP F k ≠ []) : k ∈ F.map (·.1) := by
  induction F with
  | nil => exact absurd rfl h
  | cons f r ih =>
    rw [getP] at h
    by_cases hk : f.1 = k
    · simp [hk]
    · rw [if_neg hk] at h
      simp only [List.map_cons, List.mem_cons]
      exact Or.inr (ih h)

theorem firstRep_ex (F : Spell) (c : UInt8) : ∃ N, FirstRep F c N := by
  obtain ⟨N, hN, hf⟩ := pigeon (fun n => List.replicate (n + 2) c) F.length (fun i j _ _ e => by
    have := congrArg List.length e
    simp at this
    exact this) (F.map (·.1)) (by simp)
  have hf' : getP F (List.replicate (N + 2) c) = [] := by
    by_cases h : getP F (List.replicate (N + 2) c) = []
    · exact h
    · exact absurd (getP_mem F _ h) hf
  obtain ⟨n, h1, h2, h3⟩ := least (P := fun n => getP F (List.replicate (n + 2) c) = []) N hf'
  refine ⟨n + 2, by omega, by omega, h2, fun m hm hlt => ?_⟩
  have := h3 (m - 2) (by omega)
  rwa [show m - 2 + 2 = m by omega] at this

theorem kind_sign_head {l : List UInt8} (h : kindL l = 9) : ∃ c r, l = c :: r ∧ signB c.toNat = true := by
  cases l with
  | nil => simp [kindL] at h
  | cons c r =>
    refine ⟨c, r, rfl, ?_⟩
    rw [kindL, if_neg (by simp)] at h
    by_cases hm : markB (c :: r) = true
    · rw [if_pos hm] at h; omega
    · rw [if_neg hm, kindRest.eq_def] at h
      dsimp only at h
      by_cases hs : signB c.toNat = true
      · exact hs
      · rw [if_neg (by simp [hs])] at h
        exfalso
        revert h
        repeat' split
        all_goals intro h; omega

theorem kind_rep (c : UInt8) (hc : signB c.toNat = true) (n : Nat) (hn : 2 ≤ n) : kindL (List.replicate n c) = 9 := by
  obtain ⟨m, rfl⟩ : ∃ m, n = m + 2 := ⟨n - 2, by omega⟩
  rw [kindL, if_neg (by simp)]
  have hmk : markB (List.replicate (m + 2) c) = false := by
    have h1 : ∀ a b : UInt8, a ≠ b → List.replicate (m + 2) c ≠ [a, b] := fun a b hab e => by
      cases m with
      | zero => simp [List.replicate_succ] at e; exact hab (e.1.symm.trans e.2)
      | succ m => simp [List.replicate_succ] at e
    have h2 : ∀ a : UInt8, List.replicate (m + 2) c ≠ [a] := fun a e => by
      have := congrArg List.length e
      simp at this
    unfold markB
    rw [oneMark_short _ (by simp), Bool.or_false]
    unfold reservedB
    simp only [decide_eq_false (h2 _), decide_eq_false (h1 61 62 (by decide)), decide_eq_false (h1 58 62 (by decide)), decide_eq_false (h1 45 62 (by decide)), Bool.or_false]
  rw [hmk, if_neg (by simp)]
  have hall : allB signB (List.replicate (m + 2) c) = true := by
    unfold allB
    rw [List.all_eq_true]
    intro x hx
    rw [List.eq_of_mem_replicate hx]
    exact hc
  show kindRest (c :: List.replicate (m + 1) c) = 9
  rw [kindRest.eq_def]
  dsimp only
  rw [if_pos]
  rw [hc, Bool.true_and]
  exact hall

theorem alike_rep {l : List UInt8} {c : UInt8} {r : List UInt8} (hl : l = c :: r) (hk : kindL l = 9) (n : Nat) (hn : 2 ≤ n) : alikeL (List.replicate n c) l = true := by
  subst hl
  obtain ⟨c', r', e, hc⟩ := kind_sign_head hk
  cases e
  have h1 := kind_rep c hc n hn
  have hh : headI (List.replicate n c) = headI (c :: r) := by
    obtain ⟨m, rfl⟩ : ∃ m, n = m + 1 := ⟨n - 1, by omega⟩
    rfl
  rw [alikeL, h1, hk]
  simp only [bne_self_eq_false, Bool.false_eq_true, if_false, beq_self_eq_true, if_true]
  rw [levelL, levelL, rightL, rightL, if_pos h1, if_pos hk, if_pos h1, if_pos hk, hh]
  simp

/-- WHAT spell.Fresh GIVES. -/
def FreshIs (fs : List Fil) (l r : List UInt8) (b : Bool) : Prop :=
  (kindL l = 6 ∧ b = true ∧ ∃ K I, FirstFree 1 (takenL fs) K I ∧ r = cand 1 K I) ∨
  (kindL l = 7 ∧ b = true ∧ ∃ K I, FirstFree 4 (takenL fs) K I ∧ r = cand 4 K I) ∨
  (kindL l = 9 ∧ b = true ∧ ∃ c t N, l = c :: t ∧ FirstRep (spellL fs) c N ∧ r = List.replicate N c) ∨
  (kindL l ≠ 6 ∧ kindL l ≠ 7 ∧ kindL l ≠ 9 ∧ b = false ∧ r = [])
end Go.Proofs.YtbbibngagdpdcaaGreatDoor

namespace Go.Proofs.YtbbibngagdpdcaaGreatDoor
open Go Go.RowKit
open Go.Shelf
open Go.ChangeMaps Go.MapKept

theorem str_list (s : ByteArray) (l : List UInt8) (h : s.data.toList = l) : (.string s : Value) = strV l := by rw [← h, strV_data]

theorem rep_add (s like : ByteArray) (n : Nat) (c : UInt8) (t : List UInt8) (hs : s.data.toList = List.replicate n c) (hl : like.data.toList = c :: t) : (s ++ like.extract 0 1).data.toList = List.replicate (n + 1) c := by
  rw [ByteArray.data_append, Array.toList_append, hs, Lib.extract_data, hl, List.replicate_succ', List.drop_zero]
  rfl

theorem rep_two (like : ByteArray) (c : UInt8) (t : List UInt8) (hl : like.data.toList = c :: t) : (like.extract 0 1 ++ like.extract 0 1).data.toList = List.replicate 2 c := by
  rw [ByteArray.data_append, Array.toList_append, Lib.extract_data, hl]
  rfl

theorem one_size (like : ByteArray) : (like.extract 0 1).size ≤ 1 := by
  have := congrArg List.length (Lib.extract_data like 0 1)
  simp only [Array.length_toList, List.length_take, List.length_drop] at this
  have h2 : (like.extract 0 1).data.size = (like.extract 0 1).size := rfl
  omega

theorem rep_size (s : ByteArray) (n : Nat) (c : UInt8) (hs : s.data.toList = List.replicate n c) : s.size = n := by
  have := congrArg List.length hs
  simpa using this

set_option maxHeartbeats 1000000 in
theorem fresh_word (fs : List Fil) (v : Value) (s : ByteArray) (w : World) (ht : TabOk w) (hf : Few fs) (hv : FilesAt w v fs) (hs : s.size ≤ 140737488351232) (hk : kindL s.data.toList = 6) :
    Calls Tryz.prog 6 #[.string s, v] w fun e w' => ∃ r b, FreshIs fs s.data.toList r b ∧ e = .returned (.tuple #[strV r, .bool b]) ∧ Below w.heap.size w w' := by
  obtain ⟨a, c, rfl, hv'⟩ := id hv
  clear hv'
  have HV := Lib.hid hv
  have HF := Lib.hid hf
  have HT := Lib.hid ht
  have HK := Lib.hid hk
  clear hv hf ht hk
  go_enter Tryz.func6, Tryz.ntmps6
  go_wp2_with fail
  refine (kind_any s _ hs).mono ?_
  rintro e w1 ⟨rfl, hb1⟩
  rw [HK.out]
  dsimp only
  have HB1 := Lib.hid hb1
  have HV1 := Lib.hid (HV.out.later hb1)
  clear hb1
  go_wp2_with fail
  refine (taken_any fs _ _ HF.out HV1.out).mono ?_
  rintro e w2 ⟨v', rfl, hown, hb2⟩
  obtain ⟨K, I, hFF⟩ := firstFree_ex 1 (takenL fs) (by rw [taken_len]; have := spell_len fs HF.out; omega)
  have hS := strs_own hown rfl
  have HB2 := Lib.hid (Below.next HB1.out (Nat.le_refl _) hb2)
  have hc := fresh_1 (takenL fs) v' K I hFF w2 (HT.out.later HB2.out) hS (by rw [taken_len]; have := spell_len fs HF.out; omega)
  have HC := Lib.hid hc
  have HFF := Lib.hid hFF
  clear hc hFF hS hown hb2
  dsimp only
  go_wp2_with fail
  refine HC.out.mono ?_
  rintro e w3 ⟨rfl, hb3⟩
  go_wp2
  go_ret2
  exact ⟨_, _, .inl ⟨HK.out, rfl, K, I, HFF.out, rfl⟩, rfl, Below.next HB2.out (Nat.le_refl _) hb3⟩

set_option maxHeartbeats 1000000 in
theorem fresh_cap (fs : List Fil) (v : Value) (s : ByteArray) (w : World) (ht : TabOk w) (hf : Few fs) (hv : FilesAt w v fs) (hs : s.size ≤ 140737488351232) (hk : kindL s.data.toList = 7) :
    Calls Tryz.prog 6 #[.string s, v] w fun e w' => ∃ r b, FreshIs fs s.data.toList r b ∧ e = .returned (.tuple #[strV r, .bool b]) ∧ Below w.heap.size w w' := by
  obtain ⟨a, c, rfl, hv'⟩ := id hv
  clear hv'
  have HV := Lib.hid hv
  have HF := Lib.hid hf
  have HT := Lib.hid ht
  have HK := Lib.hid hk
  clear hv hf ht hk
  go_enter Tryz.func6, Tryz.ntmps6
  go_wp2_with fail
  refine (kind_any s _ hs).mono ?_
  rintro e w1 ⟨rfl, hb1⟩
  rw [HK.out]
  dsimp only
  have HB1 := Lib.hid hb1
  have HV1 := Lib.hid (HV.out.later hb1)
  clear hb1
  go_wp2_with fail
  refine (taken_any fs _ _ HF.out HV1.out).mono ?_
  rintro e w2 ⟨v', rfl, hown, hb2⟩
  obtain ⟨K, I, hFF⟩ := firstFree_ex 4 (takenL fs) (by rw [taken_len]; have := spell_len fs HF.out; omega)
  have hS := strs_own hown rfl
  have HB2 := Lib.hid (Below.next HB1.out (Nat.le_refl _) hb2)
  have hc := fresh_4 (takenL fs) v' K I hFF w2 (HT.out.later HB2.out) hS (by rw [taken_len]; have := spell_len fs HF.out; omega)
  have HC := Lib.hid hc
  have HFF := Lib.hid hFF
  clear hc hFF hS hown hb2
  dsimp only
  go_wp2_with fail
  refine HC.out.mono ?_
  rintro e w3 ⟨rfl, hb3⟩
  go_wp2
  go_ret2
  exact ⟨_, _, .inr (.inl ⟨HK.out, rfl, K, I, HFF.out, rfl⟩), rfl, Below.next HB2.out (Nat.le_refl _) hb3⟩

set_option maxHeartbeats 1000000 in
theorem fresh_none (fs : List Fil) (v : Value) (s : ByteArray) (w : World) (hv : FilesAt w v fs) (hs : s.size ≤ 140737488351232) (h6 : ¬ kindL s.data.toList = 6) (h7 : ¬ kindL s.data.toList = 7) (h9 : ¬ kindL s.data.toList = 9) :
    Calls Tryz.prog 6 #[.string s, v] w fun e w' => ∃ r b, FreshIs fs s.data.toList r b ∧ e = .returned (.tuple #[strV r, .bool b]) ∧ Below w.heap.size w w' := by
  obtain ⟨a, c, rfl, hv'⟩ := id hv
  clear hv' hv
  go_enter Tryz.func6, Tryz.ntmps6
  go_wp2_with fail
  refine (kind_any s _ hs).mono ?_
  rintro e w1 ⟨rfl, hb1⟩
  dsimp only
  go_wp2
  go_ret2
  exact ⟨[], false, .inr (.inr (.inr ⟨h6, h7, h9, rfl, rfl⟩)), rfl, hb1⟩

set_option maxHeartbeats 2000000 in
theorem fresh_sign (fs : List Fil) (v : Value) (like : ByteArray) (w : World) (hf : Few fs) (hv : FilesAt w v fs) (hs : like.size ≤ 140737488351232) (hk : kindL like.data.toList = 9) :
    Calls Tryz.prog 6 #[.string like, v] w fun e w' => ∃ r b, FreshIs fs like.data.toList r b ∧ e = .returned (.tuple #[strV r, .bool b]) ∧ Below w.heap.size w w' := by
  obtain ⟨a, c, rfl, hv'⟩ := id hv
  clear hv'
  obtain ⟨ch, t, hl, _⟩ := kind_sign_head hk
  have hpos : 1 ≤ like.size := kind_pos like (by omega)
  obtain ⟨N, hN⟩ := firstRep_ex (spellL fs) ch
  have hN1 : N ≤ 20000000 := by have := hN.small; have := spell_len fs hf; omega
  have hN2 := hN.two
  have HL := Lib.hid hl
  have HV := Lib.hid hv
  have HF := Lib.hid hf
  have HK := Lib.hid hk
  have HN := Lib.hid hN
  clear hv hf hk hl hN
  go_enter Tryz.func6, Tryz.ntmps6
  go_wp2_with fail
  refine (kind_any like _ hs).mono ?_
  rintro e w1 ⟨rfl, hb1⟩
  rw [HK.out]
  dsimp only
  have HB1 := Lib.hid hb1
  have HV1 := Lib.hid (HV.out.later hb1)
  clear hb1
  go_wp2_with fail
  refine (spelled_any fs _ _ HF.out HV1.out).mono ?_
  rintro e w2 ⟨rfl, hS, hb2⟩
  have HB2 := Lib.hid (Below.next HB1.out (Nat.le_refl _) hb2)
  have HS := Lib.hid hS
  have h1 := one_size like
  have hadd0 : ∀ W : World, (Op.stringOp .add (like.extract 0 1) (like.extract 0 1)).run Tryz.prog W = .ok (.string (like.extract 0 1 ++ like.extract 0 1)) W := fun W => run_string_add_sum W _ _ (by omega)
  clear hS hb2
  obtain ⟨mb, hmb⟩ : ∃ mb, mb = w1.heap.size := ⟨_, rfl⟩
  rw [← hmb] at HS ⊢
  have HM := Lib.hid hmb
  clear hmb
  dsimp only
  go_wp2
  go_quiet (fail)
  go_wp2
  clear hadd0
  have HB3 : Hid (∀ q, Below w.heap.size w (w2.drewN q)) := fun q => Below.next HB2.out (Nat.le_refl _) (below_draw0 _ q)
  have HS3 : Hid (∀ q, SpellAt (w2.drewN q) mb (mb + 1) (spellL fs)) := fun q => HS.out.later (below_draw0 _ q)
  have HR2 := Lib.hid (rep_two like ch t HL.out)
  clear HB2 HS HB1 HV1
  go_loopg [7] N (fun g v wr => ∃ (n : Nat) (s : ByteArray), v = .string s ∧ 2 ≤ n ∧ n ≤ N ∧ N - n ≤ g ∧ Hid (s.data.toList = List.replicate n ch) ∧ Hid (Below w.heap.size w wr) ∧ Hid (SpellAt wr mb (mb + 1) (spellL fs)))
  case atStart => exact ⟨2, _, rfl, Nat.le_refl _, hN2, by omega, HR2, HB3.out _, HS3.out _⟩
  case round =>
    obtain ⟨n, s, rfl, hn2, hnN, hg, hs7, hB, hS⟩ := hrel
    clear HR2 HB3 HS3
    have hsz : s.size ≤ 140737488351232 := by rw [rep_size s n ch hs7.out]; omega
    have hadd : ∀ W : World, (Op.stringOp .add s (like.extract 0 1)).run Tryz.prog W = .ok (.string (s ++ like.extract 0 1)) W := fun W => run_string_add_sum W _ _ (by omega)
    go_wp2_with fail
    refine (alike_any s like _ hsz hs).mono ?_
    rintro e w4 ⟨rfl, hb4⟩
    rw [hs7.out, alike_rep HL.out HK.out n hn2]
    dsimp only
    have hS4 := hS.out.later hb4
    obtain ⟨v0, hlook, own0, _⟩ := hS4.look (List.replicate n ch) (by unfold maxLen; simp; omega) (by have := spell_len fs HF.out; unfold maxLen; omega)
    rw [← str_list s _ hs7.out] at hlook
    obtain ⟨a0, c0, rfl⟩ := own_slice own0
    have hB4 := Lib.hid (Below.next hB.out (Nat.le_refl _) hb4)
    have HS4 := Lib.hid hS4
    by_cases hnn : n = N
    · subst hnn
      have hlen : (getP (spellL fs) (List.replicate n ch)).length = 0 := by rw [HN.out.free]; rfl
      rw [hlen] at hlook
      clear hlen own0 hS4 hb4 hB hS
      go_wp2_with (go_at_call 19; refine (clone_any s _ (by omega)).mono ?_; rintro e w5 ⟨rfl, hb5⟩)
      go_ret2
      exact ⟨List.replicate n ch, true, .inr (.inr (.inl ⟨HK.out, rfl, ch, t, n, HL.out, HN.out, rfl⟩)), by rw [← str_list s _ hs7.out]; rfl, Below.next hB4.out (Nat.le_refl _) hb5⟩
    · have hlen : 0 < (getP (spellL fs) (List.replicate n ch)).length := List.length_pos_iff.2 (HN.out.taken n hn2 (by omega))
      obtain ⟨m, hm⟩ : ∃ m, (getP (spellL fs) (List.replicate n ch)).length = m := ⟨_, rfl⟩
      rw [hm] at hlook hlen
      have hr := Lib.hid (rep_add s like n ch t hs7.out HL.out)
      clear hm own0 hS4 hb4 hB hS
      go_wp2
      go_roundg (N - (n + 1))
      case measure => omega
      case rel => exact ⟨n + 1, _, rfl, by omega, by omega, Nat.le_refl _, hr, hB4, HS4⟩

theorem fresh_any (fs : List Fil) (v : Value) (s : ByteArray) (w : World) (ht : TabOk w) (hf : Few fs) (hv : FilesAt w v fs) (hs : s.size ≤ 140737488351232) :
    Calls Tryz.prog 6 #[.string s, v] w fun e w' => ∃ r b, FreshIs fs s.data.toList r b ∧ e = .returned (.tuple #[strV r, .bool b]) ∧ Below w.heap.size w w' := by
  by_cases h6 : kindL s.data.toList = 6
  · exact fresh_word fs v s w ht hf hv hs h6
  by_cases h7 : kindL s.data.toList = 7
  · exact fresh_cap fs v s w ht hf hv hs h7
  by_cases h9 : kindL s.data.toList = 9
  · exact fresh_sign fs v s w hf hv hs h9
  · exact fresh_none fs v s w hv hs h6 h7 h9
end Go.Proofs.YtbbibngagdpdcaaGreatDoor
