import Derived.Test.YtbbibngagdpdcaaDoorD4
namespace Go.Proofs.YtbbibngagdpdcaaDoor
open Go Go.RowKit
open Go.Shelf

def digVal (l : List UInt8) : Nat := l.foldl (fun n d => n * 10 + (d.toNat - 48)) 0

theorem digVal_dec (u : Nat) : digVal (Lib.decDigits u) = u := by
  induction u using Nat.strongRecOn with
  | ind u ih =>
    rw [Lib.decDigits]
    split
    · rename_i h
      simp only [digVal, List.foldl_cons, List.foldl_nil, UInt8.toNat_ofNat']
      omega
    · rename_i h
      have h1 := ih (u / 10) (by omega)
      unfold digVal at h1
      rw [digVal, List.foldl_append, h1]
      simp only [List.foldl_cons, List.foldl_nil, UInt8.toNat_ofNat']
      omega

theorem dec_inj {a b : Nat} (h : Lib.decDigits a = Lib.decDigits b) : a = b := by rw [← digVal_dec a, ← digVal_dec b, h]

theorem pigeon {α : Type} [DecidableEq α] (f : Nat → α) : ∀ (N : Nat) (_ : ∀ i j, i ≤ N → j ≤ N → f i = f j → i = j) (l : List α) (_ : l.length ≤ N), ∃ n, n ≤ N ∧ f n ∉ l
  | 0, _, l, h => ⟨0, Nat.le_refl _, by have e : l = [] := List.eq_nil_of_length_eq_zero (by omega); subst e; simp⟩
  | N + 1, inj, l, h => by
    by_cases hm : f (N + 1) ∈ l
    · obtain ⟨n, hn, hf⟩ := pigeon f N (fun i j hi hj e => inj i j (by omega) (by omega) e) (l.erase (f (N + 1))) (by rw [List.length_erase_of_mem hm]; omega)
      refine ⟨n, by omega, fun h2 => hf ((List.mem_erase_of_ne ?_).2 h2)⟩
      intro e
      have := inj n (N + 1) (by omega) (Nat.le_refl _) e
      omega
    · exact ⟨N + 1, Nat.le_refl _, hm⟩

theorem least {P : Nat → Prop} : ∀ (N : Nat), P N → ∃ n, n ≤ N ∧ P n ∧ ∀ m, m < n → ¬ P m := by
  intro N
  induction N using Nat.strongRecOn with
  | ind N ih =>
    intro h
    by_cases hm : ∃ m, m < N ∧ P m
    · obtain ⟨m, h1, h2⟩ := hm
      obtain ⟨n, h3, h4⟩ := ih m h1 h2
      exact ⟨n, by omega, h4⟩
    · exact ⟨N, Nat.le_refl _, h, fun m h1 h2 => hm ⟨m, h1, h2⟩⟩

theorem letter_inj (sp : Int) {i j : Nat} (hi : i < 3) (hj : j < 3) (h : letter sp i = letter sp j) : i = j := by
  unfold letter at h
  match i, hi, j, hj with
  | 0, _, 0, _ | 1, _, 1, _ | 2, _, 2, _ => rfl
  | 0, _, 1, _ | 0, _, 2, _ | 1, _, 0, _ | 1, _, 2, _ | 2, _, 0, _ | 2, _, 1, _ =>
    exfalso
    revert h
    by_cases hs : sp = 1 <;> simp [hs]

theorem cand_inj (sp : Int) {k k' i i' : Nat} (hi : i < 3) (hi' : i' < 3) (h : cand sp k i = cand sp k' i') : k = k' ∧ i = i' := by
  unfold cand at h
  injection h with h1 h2
  refine ⟨?_, letter_inj sp hi hi' h1⟩
  have hp : ∀ n : Nat, Lib.itoa (n : Int) = Lib.decDigits n := fun n => by
    unfold Lib.itoa
    rw [if_neg (by omega)]; simp
  have hne : ∀ n : Nat, Lib.decDigits n ≠ [] := fun n e => by
    have := congrArg List.length e
    rw [Lib.decDigits] at this
    split at this <;> simp at this
  by_cases h0 : k = 0 <;> by_cases h0' : k' = 0
  · omega
  · rw [if_pos h0, if_neg h0', hp] at h2
    exact absurd h2.symm (hne _)
  · rw [if_neg h0, if_pos h0', hp] at h2
    exact absurd h2 (hne _)
  · rw [if_neg h0, if_neg h0', hp, hp] at h2
    exact dec_inj h2

/-- AMONG ENOUGH CANDIDATES ONE IS FREE. -/
theorem firstFree_ex (sp : Int) (zs : List (List UInt8)) (hz : zs.length ≤ 100000000) : ∃ K I, FirstFree sp zs K I := by
  obtain ⟨N, hN, hf⟩ := pigeon (fun n => cand sp (n / 3) (n % 3)) zs.length (fun i j _ _ e => by
    obtain ⟨h1, h2⟩ := cand_inj sp (Nat.mod_lt _ (by omega)) (Nat.mod_lt _ (by omega)) e
    omega) zs (Nat.le_refl _)
  obtain ⟨n, h1, h2, h3⟩ := least (P := fun n => cand sp (n / 3) (n % 3) ∉ zs) N hf
  refine ⟨n / 3, n % 3, Nat.mod_lt _ (by omega), by omega, ?_, ?_⟩
  · simpa [List.contains_iff_mem] using h2
  · intro k i hi hlt
    have h4 := h3 (k * 3 + i) (by omega)
    have e1 : (k * 3 + i) / 3 = k := by omega
    have e2 : (k * 3 + i) % 3 = i := by omega
    rw [e1, e2] at h4
    simpa [List.contains_iff_mem] using h4

/-- HOW OFTEN spell.Fresh SETS A SIGN. -/
structure FirstRep (F : Spell) (c : UInt8) (N : Nat) : Prop where
  two : 2 ≤ N
  small : N ≤ F.length + 2
  free : getP F (List.replicate N c) = []
  taken : ∀ m, 2 ≤ m → m < N → getP F (List.replicate m c) ≠ []

theorem getP_mem (F : Spell) (k : List UInt8) (h : getP F k ≠ []) : k ∈ F.map (·.1) := by
  induction F with
  | nil => exact absurd rfl h
  | cons f r ih =>
    rw [getP] at h
    by_cases hk : f.1 = k
    · simp [hk]
    · rw [if_neg hk] at h
      simp only [List.map_cons, List.mem_cons]
      exact Or.inr (ih h)

theorem firstRep_ex (F : Spell) (c : UInt8) : ∃ N, FirstRep F c N := by
  obtain ⟨N, hN, hf⟩ := pigeon (fun n => List.replicate (n + 2) c) F.length (fun i j _ _ e => by
    have := congrArg List.length e
    simp at this
    exact this) (F.map (·.1)) (by simp)
  have hf' : getP F (List.replicate (N + 2) c) = [] := by
    by_cases h : getP F (List.replicate (N + 2) c) = []
    · exact h
    · exact absurd (getP_mem F _ h) hf
  obtain ⟨n, h1, h2, h3⟩ := least (P := fun n => getP F (List.replicate (n + 2) c) = []) N hf'
  refine ⟨n + 2, by omega, by omega, h2, fun m hm hlt => ?_⟩
  have := h3 (m - 2) (by omega)
  rwa [show m - 2 + 2 = m by omega] at this

theorem kind_sign_head {l : List UInt8} (h : kindL l = 9) : ∃ c r, l = c :: r ∧ signB c.toNat = true := by
  cases l with
  | nil => simp [kindL] at h
  | cons c r =>
    refine ⟨c, r, rfl, ?_⟩
    rw [kindL, if_neg (by simp)] at h
    by_cases hm : markB (c :: r) = true
    · rw [if_pos hm] at h; omega
    · rw [if_neg hm, kindRest.eq_def] at h
      dsimp only at h
      by_cases hs : signB c.toNat = true
      · exact hs
      · rw [if_neg (by simp [hs])] at h
        exfalso
        revert h
        repeat' split
        all_goals intro h; omega

theorem kind_rep (c : UInt8) (hc : signB c.toNat = true) (n : Nat) (hn : 2 ≤ n) : kindL (List.replicate n c) = 9 := by
  obtain ⟨m, rfl⟩ : ∃ m, n = m + 2 := ⟨n - 2, by omega⟩
  rw [kindL, if_neg (by simp)]
  have hmk : markB (List.replicate (m + 2) c) = false := by
    have h1 : ∀ a b : UInt8, a ≠ b → List.replicate (m + 2) c ≠ [a, b] := fun a b hab e => by
      cases m with
      | zero => simp [List.replicate_succ] at e; exact hab (e.1.symm.trans e.2)
      | succ m => simp [List.replicate_succ] at e
    have h2 : ∀ a : UInt8, List.replicate (m + 2) c ≠ [a] := fun a e => by
      have := congrArg List.length e
      simp at this
    unfold markB
    rw [oneMark_short _ (by simp), Bool.or_false]
    unfold reservedB
    simp only [decide_eq_false (h2 _), decide_eq_false (h1 61 62 (by decide)), decide_eq_false (h1 58 62 (by decide)), decide_eq_false (h1 45 62 (by decide)), Bool.or_false]
  rw [hmk, if_neg (by simp)]
  have hall : allB signB (List.replicate (m + 2) c) = true := by
    unfold allB
    rw [List.all_eq_true]
    intro x hx
    rw [List.eq_of_mem_replicate hx]
    exact hc
  show kindRest (c :: List.replicate (m + 1) c) = 9
  rw [kindRest.eq_def]
  dsimp only
  rw [if_pos]
  rw [hc, Bool.true_and]
  exact hall

theorem alike_rep {l : List UInt8} {c : UInt8} {r : List UInt8} (hl : l = c :: r) (hk : kindL l = 9) (n : Nat) (hn : 2 ≤ n) : alikeL (List.replicate n c) l = true := by
  subst hl
  obtain ⟨c', r', e, hc⟩ := kind_sign_head hk
  cases e
  have h1 := kind_rep c hc n hn
  have hh : headI (List.replicate n c) = headI (c :: r) := by
    obtain ⟨m, rfl⟩ : ∃ m, n = m + 1 := ⟨n - 1, by omega⟩
    rfl
  rw [alikeL, h1, hk]
  simp only [bne_self_eq_false, Bool.false_eq_true, if_false, beq_self_eq_true, if_true]
  rw [levelL, levelL, rightL, rightL, if_pos h1, if_pos hk, if_pos h1, if_pos hk, hh]
  simp

/-- WHAT spell.Fresh GIVES. -/
def FreshIs (fs : List Fil) (l r : List UInt8) (b : Bool) : Prop :=
  (kindL l = 6 ∧ b = true ∧ ∃ K I, FirstFree 1 (takenL fs) K I ∧ r = cand 1 K I) ∨
  (kindL l = 7 ∧ b = true ∧ ∃ K I, FirstFree 4 (takenL fs) K I ∧ r = cand 4 K I) ∨
  (kindL l = 9 ∧ b = true ∧ ∃ c t N, l = c :: t ∧ FirstRep (spellL fs) c N ∧ r = List.replicate N c) ∨
  (kindL l ≠ 6 ∧ kindL l ≠ 7 ∧ kindL l ≠ 9 ∧ b = false ∧ r = [])
end Go.Proofs.YtbbibngagdpdcaaDoor
