/-
  PROVED HERE: a part of the proof of the card 'SpellTellsCardSaid': what functions of the program, or of the document's packages, that SpellTells reaches compute (texts D0, D1). CONDITIONS: each theorem's own.
-/
import Derived.Test.YtbbibngagdpdcaaGreatDoorM10
import Derived.Maps.OwnRows
namespace Go.Proofs.YtbbibngagdpdcaaGreatDoor
open Go Go.RowKit
open Go.Shelf
open Go.ChangeMaps Go.MapKept
open Go.WideElems (Fit rd rg pl rd_val elemAt rd_mk rd_key)
open Go.Maps (Keyed)

/-- A PLACE: a file's number, and where. -/
abbrev Plc := Nat × Nat
def placeCells (p : Plc) : List Value := [.int .i64 (p.1 : Nat), .int .i64 (p.2 : Nat)]
/-- WHERE EACH NAME IS SPELLED, the names in the order in which they came. -/
abbrev Spell := List (List UInt8 × List Plc)

def getP : Spell → List UInt8 → List Plc
  | [], _ => []
  | f :: r, k => if f.1 = k then f.2 else getP r k

def putP : Spell → List UInt8 → Plc → Spell
  | [], k, p => [(k, [p])]
  | f :: r, k, p => if f.1 = k then (k, f.2 ++ [p]) :: r else f :: putP r k p

theorem getP_none (F : Spell) (k : List UInt8) (h : ∀ f ∈ F, f.1 ≠ k) : getP F k = [] := by
  induction F with
  | nil => rfl
  | cons f r ih =>
    rw [getP, if_neg (h f (by simp)), ih (fun x hx => h x (by simp [hx]))]

theorem putP_none (F : Spell) (k : List UInt8) (p : Plc) (h : ∀ f ∈ F, f.1 ≠ k) : putP F k p = F ++ [(k, [p])] := by
  induction F with
  | nil => rfl
  | cons f r ih =>
    rw [putP, if_neg (h f (by simp)), ih (fun x hx => h x (by simp [hx])), List.cons_append]

theorem getP_at (F : Spell) (k : List UInt8) (j : Nat) (f : List UInt8 × List Plc) (hj : F[j]? = some f) (hk : f.1 = k) (hd : F.Pairwise fun x y => x.1 ≠ y.1) : getP F k = f.2 := by
  induction F generalizing j with
  | nil => simp at hj
  | cons x r ih =>
    obtain ⟨h1, h2⟩ := List.pairwise_cons.1 hd
    cases j with
    | zero =>
      simp at hj
      subst hj
      rw [getP, if_pos hk]
    | succ j =>
      have hj' : r[j]? = some f := by simpa using hj
      have hm : f ∈ r := List.mem_of_getElem? hj'
      rw [getP, if_neg (by rw [← hk]; exact h1 f hm), ih j hj' h2]

theorem putP_at (F : Spell) (k : List UInt8) (p : Plc) (j : Nat) (f : List UInt8 × List Plc) (hj : F[j]? = some f) (hk : f.1 = k) (hd : F.Pairwise fun x y => x.1 ≠ y.1) : putP F k p = F.set j (k, f.2 ++ [p]) := by
  induction F generalizing j with
  | nil => simp at hj
  | cons x r ih =>
    obtain ⟨h1, h2⟩ := List.pairwise_cons.1 hd
    cases j with
    | zero =>
      simp at hj
      subst hj
      rw [putP, if_pos hk, List.set_cons_zero]
    | succ j =>
      have hj' : r[j]? = some f := by simpa using hj
      have hm : f ∈ r := List.mem_of_getElem? hj'
      rw [putP, if_neg (by rw [← hk]; exact h1 f hm), ih j hj' h2, List.set_cons_succ]

def R0 (_ : Value) : Option (DataW Unit × List MemPlace) := some (.nil, [])

/-- BLOCK b IS A MAP THAT HOLDS F: each element owns a row of places from block 'base' on; no two of them lie in one row. -/
structure SpellAt (w : World) (b base : Nat) (F : Spell) : Prop where
  low : b < base
  ex : ∃ es clock, w.heap[b]? = some (.map es clock) ∧ Fit Tryz.prog 9 R0 es clock ∧ es.toList.length = F.length ∧
    (∀ (i : Nat) (x : MapEntry) (f : List UInt8 × List Plc), es.toList[i]? = some x → F[i]? = some f → x.key = strV f.1 ∧ f.2 ≠ [] ∧ w.ownsRow base 32 2 x.val f.2.length (f.2.flatMap placeCells)) ∧
    (∀ (i j : Nat) (x y : MapEntry), i ≠ j → es.toList[i]? = some x → es.toList[j]? = some y → x.val.ownBlock ≠ y.val.ownBlock)

theorem SpellAt.made (w : World) : SpellAt (w.alloc (.map #[] 0)) w.heap.size (w.heap.size + 1) [] :=
  ⟨Nat.lt_succ_self _, #[], 0, (MapKept.heap_alloc w _).1, ⟨by simp, stamped_empty 0, by simp⟩, rfl, by simp, by simp⟩

theorem own_some {w : World} {base : Nat} {e : TypeId} {size : Nat} {v : Value} {n : Nat} {xs : List Value} (h : w.ownsRow base e size v n xs) (hn : 0 < n) : ∃ g, v.ownBlock = some g ∧ base ≤ g ∧ g < w.heap.size := by
  rcases h.2 with ⟨_, h0⟩ | ⟨g, cap, cur, rfl, hb, hg, _⟩
  · omega
  · exact ⟨g, rfl, hb, (Array.getElem?_eq_some_iff.1 hg).1⟩

/-- WHAT A MAP OF PLACES IS, it is still behind steps that write neither it nor its rows. -/
theorem SpellAt.later {w w' : World} {b base : Nat} {F : Spell} (h : SpellAt w b base F) (hb : Below w.heap.size w w') : SpellAt w' b base F := by
  obtain ⟨hlow, es, clock, hblk, hfit, hlen, hent, hap⟩ := h
  have hlt : b < w.heap.size := (Array.getElem?_eq_some_iff.1 hblk).1
  exact ⟨hlow, es, clock, (hb.block b hlt).trans hblk, hfit, hlen, fun i x f hx hf => ⟨(hent i x f hx hf).1, (hent i x f hx hf).2.1, own_later (hent i x f hx hf).2.2 hb⟩, hap⟩

theorem SpellAt.lt {w : World} {b base : Nat} {F : Spell} (h : SpellAt w b base F) : b < w.heap.size := by
  obtain ⟨_, es, clock, hblk, _⟩ := h
  exact (Array.getElem?_eq_some_iff.1 hblk).1

theorem strV_inj {a b : List UInt8} (h : strV a = strV b) : a = b := by
  have : (⟨a.toArray⟩ : ByteArray) = ⟨b.toArray⟩ := by injection h
  have h2 : a.toArray = b.toArray := by injection this
  simpa using congrArg Array.toList h2

theorem keyOf_str (k : List UInt8) (hk : k.length ≤ maxLen) : keyOf Tryz.prog 9 (strV k) = some (.string k) := by
  simp [keyOf, Tryz.underlying9, mapKey, strV, ByteArray.size, hk]

theorem ownsRow_setBlock {w : World} {b base : Nat} {o' : Obj} {e : TypeId} {size : Nat} {v : Value} {n : Nat} {xs : List Value} (h : w.ownsRow base e size v n xs) (hlow : b < base) : (setBlock w b o').ownsRow base e size v n xs := by
  obtain ⟨h1, h2⟩ := h
  refine ⟨h1, ?_⟩
  rcases h2 with h2 | ⟨g, cap, cur, h3, h4, h5, h6⟩
  · exact .inl h2
  · have hne : g ≠ b := by omega
    refine .inr ⟨g, cap, cur, h3, h4, ?_, h6⟩
    show (w.heap.setIfInBounds b o')[g]? = _
    rw [Array.getElem?_setIfInBounds_ne (fun e => hne e.symm)]
    exact h5

theorem SpellAt.look {w : World} {b base : Nat} {F : Spell} (h : SpellAt w b base F) (k : List UInt8) (hk : k.length ≤ maxLen) (hroom : F.length < maxLen) :
    ∃ v0, (Instr.lookup 43 (.map (some b)) (strV k) false).run Tryz.prog w = .ok v0 w ∧ w.ownsRow base 32 2 v0 (getP F k).length ((getP F k).flatMap placeCells) ∧
      ∀ (w1 : World) (v' : Value) (p : Plc), w.grownBy w1 v0.ownBlock → w1.ownsRow base 32 2 v' ((getP F k).length + 1) ((getP F k ++ [p]).flatMap placeCells) → (v'.ownBlock = v0.ownBlock ∨ v'.ownBlock = some w.heap.size ∨ v'.ownBlock = some (w.heap.size + 1)) →
        ∃ w2, (Instr.mapUpdate 43 (.map (some b)) (strV k) v').run Tryz.prog w1 = .ok () w2 ∧ SpellAt w2 b base (putP F k p) ∧ w1.grownBy w2 (some b) := by
  obtain ⟨hlow, es, clock, hblk, hfit, hlen, hent, hap⟩ := h
  have hblt : b < w.heap.size := (Array.getElem?_eq_some_iff.1 hblk).1
  have K : Keyed Tryz.prog 9 := Maps.string_keyed Tryz.underlying9
  have hkey := keyOf_str k hk
  have ht := Tryz.underlying43
  have hzero : (zeroValue 28).run Tryz.prog w = .ok (.slice none 0 0) w := by kernel_rfl
  have hpw : es.toList.Pairwise (fun x y => x.key ≠ y.key) := ((stamped_iff es clock).1 hfit.stamped).2.2
  have hget : ∀ (i : Nat) (f : List UInt8 × List Plc), F[i]? = some f → ∃ x, es.toList[i]? = some x := fun i f hf => by
    have hi : i < F.length := (List.getElem?_eq_some_iff.1 hf).1
    exact ⟨es.toList[i]'(by omega), List.getElem?_eq_getElem _⟩
  have hgetE : ∀ (i : Nat) (x : MapEntry), es.toList[i]? = some x → ∃ f, F[i]? = some f := fun i x hx => by
    have hi : i < es.toList.length := (List.getElem?_eq_some_iff.1 hx).1
    exact ⟨F[i]'(by omega), List.getElem?_eq_getElem _⟩
  have hpwF : F.Pairwise fun x y => x.1 ≠ y.1 := by
    rw [List.pairwise_iff_getElem] at hpw ⊢
    intro i j hi hj hij e
    have k1 := (hent i es.toList[i] F[i] (List.getElem?_eq_getElem _) (List.getElem?_eq_getElem _)).1
    have k2 := (hent j es.toList[j] F[j] (List.getElem?_eq_getElem _) (List.getElem?_eq_getElem _)).1
    exact hpw i j (by omega) (by omega) hij (by rw [k1, k2, e])
  have esz : es.size < maxLen := by rw [← Array.length_toList]; omega
  rcases K.find w hkey es.toList hfit.keys with ⟨h1, h2⟩ | ⟨j, e0, h1, h2, h3⟩
  · -- the key is new
    have hno : ∀ f ∈ F, f.1 ≠ k := by
      intro f hf e
      obtain ⟨i, hi, rfl⟩ := List.getElem_of_mem hf
      obtain ⟨x, hx⟩ := hget i _ (List.getElem?_eq_getElem hi)
      exact h2 x (List.mem_of_getElem? hx) (by rw [(hent i x _ hx (List.getElem?_eq_getElem hi)).1, e])
    rw [getP_none F k hno]
    refine ⟨.slice none 0 0, ?_, World.ownsRow_nil _ _ _ _, ?_⟩
    · simp [Instr.lookup, run_underlying ht, MapKept.run_getObj_map hblk, K.check w _ hkey, h1, hzero, Result.andThen]
    · intro w1 v' p hg hown hloc
      have hg' : ∀ (x : MapEntry) (n : Nat) (xs : List Value), w.ownsRow base 32 2 x.val n xs → w1.ownsRow base 32 2 x.val n xs := fun x n xs ho => ho.kept hg (by cases x.val.ownBlock <;> simp [Value.ownBlock])
      have hb1 : w1.heap[b]? = some (.map es clock) := (hg.block b hblt (by simp [Value.ownBlock])).trans hblk
      have hfind1 : (Instr.findKey 9 (strV k) es.toList).run Tryz.prog w1 = .ok Option.none w1 := by
        rcases K.find w1 hkey es.toList hfit.keys with ⟨q1, _⟩ | ⟨j, e0, _, q2, q3⟩
        · exact q1
        · exact absurd q3 (h2 e0 (List.mem_of_getElem? q2))
      have hnew : ∀ x ∈ es.toList, x.val.ownBlock ≠ v'.ownBlock := by
        intro x hx e
        obtain ⟨i, hi, rfl⟩ := List.getElem_of_mem hx
        obtain ⟨f, hf⟩ := hgetE i _ (List.getElem?_eq_getElem hi)
        obtain ⟨_, hne, ho⟩ := hent i _ f (List.getElem?_eq_getElem hi) hf
        obtain ⟨gx, e1, _, e2⟩ := own_some ho (List.length_pos_iff.2 hne)
        rcases hloc with h | h | h <;> rw [← e, e1] at h <;> simp [Value.ownBlock] at h <;> omega
      refine ⟨setBlock w1 b (.map (es.push ⟨strV k, v', clock⟩) (clock + 1)), ?_, ⟨hlow, es.push ⟨strV k, v', clock⟩, clock + 1, heap_setBlock_same hb1 _, ⟨by simp; omega, stamped_push hfit.stamped h2, ?_⟩, ?_, ?_, ?_⟩, ⟨rfl, rfl, rfl, by simp [setBlock], fun i _ hi => heap_setBlock_other hb1 _ (fun e => hi (by rw [e]))⟩⟩
      · simp [Instr.mapUpdate, run_underlying ht, MapKept.run_getObj_map hb1, K.check w1 false hkey, hfind1, MapKept.run_setObj_map _ hb1, Result.andThen, setBlock]
      · intro x hx
        simp only [Array.toList_push, List.mem_append, List.mem_singleton] at hx
        rcases hx with hx | rfl
        · exact hfit.reads x hx
        · exact ⟨(.string k, .nil), by simp [Go.WideElems.rd, R0, hkey]⟩
      · rw [putP_none F k p hno]; simp; simpa using hlen
      · intro i x f hx hf
        rw [putP_none F k p hno] at hf
        rw [Array.toList_push] at hx
        by_cases hi : i < es.toList.length
        · rw [List.getElem?_append_left hi] at hx
          rw [List.getElem?_append_left (by omega)] at hf
          obtain ⟨q1, q2, q3⟩ := hent i x f hx hf
          exact ⟨q1, q2, ownsRow_setBlock (hg' x _ _ q3) hlow⟩
        · rw [List.getElem?_append_right (by omega)] at hx hf
          obtain rfl : i = es.toList.length := by
            have h9 := (List.getElem?_eq_some_iff.1 hx).1
            rw [List.length_singleton] at h9
            omega
          rw [Nat.sub_self] at hx
          rw [show es.toList.length - F.length = 0 by omega] at hf
          simp at hx hf
          subst hx hf
          refine ⟨rfl, by simp, ownsRow_setBlock ?_ hlow⟩
          simpa using hown
      · intro i j x y hij hx hy
        rw [Array.toList_push] at hx hy
        by_cases hi : i < es.toList.length <;> by_cases hj : j < es.toList.length
        · rw [List.getElem?_append_left hi] at hx
          rw [List.getElem?_append_left hj] at hy
          exact hap i j x y hij hx hy
        · rw [List.getElem?_append_left hi] at hx
          rw [List.getElem?_append_right (by omega)] at hy
          have : y = ⟨strV k, v', clock⟩ := by
            have := List.mem_of_getElem? hy
            simpa using this
          subst this
          exact hnew x (List.mem_of_getElem? hx)
        · rw [List.getElem?_append_right (by omega)] at hx
          rw [List.getElem?_append_left hj] at hy
          have : x = ⟨strV k, v', clock⟩ := by
            have := List.mem_of_getElem? hx
            simpa using this
          subst this
          exact fun e => hnew y (List.mem_of_getElem? hy) e.symm
        · have h1 := (List.getElem?_eq_some_iff.1 hx).1
          have h2 := (List.getElem?_eq_some_iff.1 hy).1
          simp at h1 h2 hi hj
          omega
  · -- the key is there
    obtain ⟨f0, hf0⟩ := hgetE j e0 h2
    obtain ⟨q1, q2, q3⟩ := hent j e0 f0 h2 hf0
    have hk0 : f0.1 = k := strV_inj (by rw [← q1, h3])
    rw [getP_at F k j f0 hf0 hk0 hpwF]
    refine ⟨e0.val, ?_, q3, ?_⟩
    · simp [Instr.lookup, run_underlying ht, MapKept.run_getObj_map hblk, K.check w _ hkey, h1, Result.andThen]
    · intro w1 v' p hg hown hloc
      obtain ⟨g0, hg0, hg0b, hg0l⟩ := own_some q3 (List.length_pos_iff.2 q2)
      have hb1 : w1.heap[b]? = some (.map es clock) := (hg.block b hblt (by rw [hg0]; intro e; cases e; omega)).trans hblk
      have hj : es[j]? = some e0 := by simpa using h2
      have hfind1 : (Instr.findKey 9 (strV k) es.toList).run Tryz.prog w1 = .ok (some (j, e0.val)) w1 := by
        rcases K.find w1 hkey es.toList hfit.keys with ⟨_, r2⟩ | ⟨j', e', r1, r2, r3⟩
        · exact absurd h3 (r2 e0 (List.mem_of_getElem? h2))
        · have : j' = j := by
            obtain ⟨hj1, hx1⟩ := List.getElem?_eq_some_iff.1 r2
            obtain ⟨hj2, hx2⟩ := List.getElem?_eq_some_iff.1 h2
            rw [List.pairwise_iff_getElem] at hpw
            rcases Nat.lt_trichotomy j' j with h | h | h
            · exact absurd (by rw [hx1, hx2, r3, h3]) (hpw j' j hj1 hj2 h)
            · exact h
            · exact absurd (by rw [hx1, hx2, r3, h3]) (hpw j j' hj2 hj1 h)
          subst this
          rw [h2] at r2
          cases r2
          exact r1
      have hother : ∀ (i : Nat) (x : MapEntry), i ≠ j → es.toList[i]? = some x → x.val.ownBlock ≠ e0.val.ownBlock := fun i x hi hx => hap i j x e0 hi hx h2
      have hnew : ∀ (i : Nat) (x : MapEntry), i ≠ j → es.toList[i]? = some x → x.val.ownBlock ≠ v'.ownBlock := by
        intro i x hi hx e
        obtain ⟨f, hf⟩ := hgetE i x hx
        obtain ⟨_, hne, ho⟩ := hent i x f hx hf
        obtain ⟨gx, e1, _, e2⟩ := own_some ho (List.length_pos_iff.2 hne)
        rcases hloc with h | h | h
        · exact hother i x hi hx (e.trans h)
        · rw [← e, e1] at h; simp at h; omega
        · rw [← e, e1] at h; simp at h; omega
      have hlist : (es.modify j (fun e' => { e' with key := strV k, val := v' })).toList = es.toList.set j { e0 with key := strV k, val := v' } := by rw [Array.toList_modify, modify_eq_set _ _ _ _ h2]
      have hset : ∀ (i : Nat) (x : MapEntry), (es.toList.set j { e0 with key := strV k, val := v' })[i]? = some x → (i = j ∧ x = { e0 with key := strV k, val := v' }) ∨ (i ≠ j ∧ es.toList[i]? = some x) := by
        intro i x hx
        rw [List.getElem?_set] at hx
        by_cases hij : j = i
        · rw [if_pos hij] at hx
          split at hx
          · exact Or.inl ⟨hij.symm, (Option.some.inj hx).symm⟩
          · cases hx
        · rw [if_neg hij] at hx
          exact Or.inr ⟨fun e => hij e.symm, hx⟩
      refine ⟨setBlock w1 b (.map (es.modify j (fun e' => { e' with key := strV k, val := v' })) clock), ?_, ⟨hlow, es.modify j (fun e' => { e' with key := strV k, val := v' }), clock, heap_setBlock_same hb1 _, ⟨by simpa using hfit.size, stamped_modify hfit.stamped _ _ (fun _ _ => rfl) (fun e' _ he' => by rw [hj] at he'; cases he'; exact h3.symm), ?_⟩, ?_, ?_, ?_⟩, ⟨rfl, rfl, rfl, by simp [setBlock], fun i _ hi => heap_setBlock_other hb1 _ (fun e => hi (by rw [e]))⟩⟩
      · simp [Instr.mapUpdate, run_underlying ht, MapKept.run_getObj_map hb1, K.check w1 false hkey, hfind1, hj, h3, K.stays w1 hkey, MapKept.run_setObj_map _ hb1, Result.andThen, setBlock]
      · intro x hx
        rw [hlist] at hx
        obtain ⟨i, hi, rfl⟩ := List.getElem_of_mem hx
        rcases hset i _ (List.getElem?_eq_getElem hi) with ⟨_, he⟩ | ⟨_, he⟩
        · rw [he]; exact ⟨(.string k, .nil), by simp [Go.WideElems.rd, R0, hkey]⟩
        · exact hfit.reads _ (List.mem_of_getElem? he)
      · rw [putP_at F k p j f0 hf0 hk0 hpwF, hlist, List.length_set, List.length_set, hlen]
      · intro i x f hx hf
        rw [hlist] at hx
        rw [putP_at F k p j f0 hf0 hk0 hpwF] at hf
        rcases hset i x hx with ⟨rfl, rfl⟩ | ⟨hij, he⟩
        · rw [List.getElem?_set_self (List.getElem?_eq_some_iff.1 hf0).1] at hf
          cases hf
          refine ⟨rfl, by simp, ownsRow_setBlock ?_ hlow⟩
          simpa using hown
        · rw [List.getElem?_set_ne (fun e => hij e.symm)] at hf
          obtain ⟨r1, r2, r3⟩ := hent i x f he hf
          refine ⟨r1, r2, ownsRow_setBlock (r3.kept hg ?_) hlow⟩
          exact Or.inr (hother i x hij he)
      · intro i i' x y hij hx hy
        rw [hlist] at hx hy
        rcases hset i x hx with ⟨rfl, rfl⟩ | ⟨h5, he⟩ <;> rcases hset i' y hy with ⟨rfl, rfl⟩ | ⟨h6, he'⟩
        · exact absurd rfl hij
        · exact fun e => hnew i' y h6 he' e.symm
        · exact hnew i x h5 he
        · exact hap i i' x y hij he he'

end Go.Proofs.YtbbibngagdpdcaaGreatDoor

namespace Go.Proofs.YtbbibngagdpdcaaGreatDoor
open Go Go.RowKit
open Go.Shelf
open Go.ChangeMaps Go.MapKept

/-- A FILE: its name, its text. -/
abbrev Fil := ByteArray × ByteArray

/-- THE SLICE v OF FILES READS AS fs IN w. -/
def FilesAt (w : World) (v : Value) (fs : List Fil) : Prop :=
  ∃ a c, v = .slice a fs.length c ∧ (fs = [] ∨ ∃ b off, a = some ⟨b, off, none⟩ ∧ b < w.heap.size ∧ ∀ j f, fs[j]? = some f → w.cell? ⟨b, off + j * 2, none⟩ = some (.string f.1) ∧ w.cell? ⟨b, off + j * 2 + 1, none⟩ = some (.string f.2))

theorem FilesAt.later {w w' : World} {v : Value} {fs : List Fil} (h : FilesAt w v fs) (hb : Below w.heap.size w w') : FilesAt w' v fs := by
  obtain ⟨a, c, rfl, h⟩ := h
  refine ⟨a, c, rfl, ?_⟩
  rcases h with h | ⟨b, off, rfl, hlt, hc⟩
  · exact .inl h
  · exact .inr ⟨b, off, rfl, Nat.lt_of_lt_of_le hlt hb.size, fun j f hj => ⟨(hb.cell (p := ⟨b, off + j * 2, none⟩) hlt).trans (hc j f hj).1, (hb.cell (p := ⟨b, off + j * 2 + 1, none⟩) hlt).trans (hc j f hj).2⟩⟩

def sub (l : List UInt8) (a b : Nat) : List UInt8 := (l.drop a).take (b - a)

/-- ONE FILE's NAMES, PUT INTO THE MAP. -/
def fileSpell (F : Spell) (i : Nat) (l : List UInt8) (ts : List Tok) : Spell := ts.foldl (fun F t => putP F (sub l t.2.1 t.2.2) (i, t.2.1)) F

/-- WHAT spell.spelled GIVES. -/
def spellFrom : Spell → Nat → List Fil → Spell
  | F, _, [] => F
  | F, i, f :: r => spellFrom (fileSpell F i f.2.data.toList (namesL f.2.data.toList)) (i + 1) r

def spellL (fs : List Fil) : Spell := spellFrom [] 0 fs

/-- FILES THAT THE WALK TAKES. -/
structure Few (fs : List Fil) : Prop where
  many : fs.length ≤ 100
  long : ∀ f ∈ fs, f.2.size ≤ 100000

/-- WHAT THE INNER LOOP OF spell.spelled KEEPS. -/
structure InnerInv (w wi : World) (fb g2 cap : Nat) (f : Fil) (ts : List Tok) (F : Spell) : Prop where
  spell : SpellAt wi w.heap.size (w.heap.size + 1) F
  file : wi.heap[fb]? = some (.cells #[.string f.1, .string f.2] 41 (0, 0))
  toks : wi.ownsRow (w.heap.size + 1) 51 3 (.slice (some ⟨g2, 0, none⟩) ts.length cap) ts.length (ts.flatMap tokCells)
  below : Below w.heap.size w wi

theorem not_own {w : World} {base : Nat} {e e' : TypeId} {size : Nat} {v : Value} {n : Nat} {xs : List Value} (h : w.ownsRow base e size v n xs) {k : Nat} {cs : Array Value} {fr : Nat × Nat} (hk : w.heap[k]? = some (.cells cs e' fr)) (hne : e ≠ e') : some k ≠ v.ownBlock := by
  intro he
  rcases h.2 with ⟨rfl, _⟩ | ⟨g, cap, cur, rfl, _, hg, _⟩
  · cases he
  · cases he
    rw [hg] at hk
    cases hk
    exact hne rfl

theorem InnerInv.step {w wi w2 w3 : World} {fb g2 cap : Nat} {f : Fil} {ts : List Tok} {F F' : Spell} {v0 : Value} {n0 : Nat} {xs0 : List Value} (h : InnerInv w wi fb g2 cap f ts F) (o1 o2 : Obj)
    (own0 : (wi.alloc o1).ownsRow (w.heap.size + 1) 32 2 v0 n0 xs0) (hgrow : ((wi.alloc o1).alloc o2).grownBy w2 v0.ownBlock) (hsp : SpellAt w3 w.heap.size (w.heap.size + 1) F') (hg3 : w2.grownBy w3 (some w.heap.size)) :
    InnerInv w w3 fb g2 cap f ts F' := by
  have hsz : w.heap.size ≤ wi.heap.size := h.below.size
  have hfb : fb < wi.heap.size := (Array.getElem?_eq_some_iff.1 h.file).1
  obtain ⟨es, clock, hmap, _⟩ := h.spell.ex
  have hmlt := h.spell.lt
  have hf1 : (wi.alloc o1).heap[fb]? = some (.cells #[.string f.1, .string f.2] 41 (0, 0)) := (Below.heap_alloc _ _ _ hfb).trans h.file
  have hf2 : ((wi.alloc o1).alloc o2).heap[fb]? = some (.cells #[.string f.1, .string f.2] 41 (0, 0)) := (Below.heap_alloc _ _ _ (by simp; omega)).trans hf1
  have hf3 := (hgrow.block fb (by simp; omega) (not_own own0 hf1 (by decide))).trans hf2
  have hne : some fb ≠ some w.heap.size := by
    intro e
    cases e
    rw [h.file] at hmap
    cases hmap
  have hf4 := (hg3.block fb (Array.getElem?_eq_some_iff.1 hf3).1 hne).trans hf3
  refine ⟨hsp, hf4, ?_, ?_⟩
  · have t1 := h.toks.alloc o1
    have t2 := t1.alloc o2
    have n1 : some g2 ≠ v0.ownBlock := by
      rcases t1.2 with ⟨he, _⟩ | ⟨g, cap', cur, he, _, hg, _⟩
      · cases he
      · simp only [Value.slice.injEq, Option.some.injEq, Addr.mk.injEq, and_true, true_and] at he
        obtain ⟨rfl, rfl⟩ := he
        exact not_own own0 hg (by decide)
    have t3 := t2.kept hgrow (Or.inr n1)
    have n2 : some g2 ≠ some w.heap.size := by
      intro e
      have := (h.toks.lt g2 rfl).1
      cases e
      omega
    exact t3.kept hg3 (Or.inr n2)
  · have b1 := ((h.below.alloc hsz o1).alloc (by simp; omega) o2).grown hgrow (by simp; omega) (fun k hk => by have := (own0.lt k hk).1; omega)
    exact b1.grown hg3 b1.size (fun k hk => by cases hk; exact Nat.le_refl _)

theorem scan_sub (l : List UInt8) : ∀ (f k : Nat), k ≤ l.length → ∀ t ∈ scanGo f l k, t.2.1 ≤ t.2.2 ∧ t.2.2 ≤ l.length
  | 0, _, _, t, h => by simp [scanGo] at h
  | f + 1, k, hk, t, h => by
    unfold scanGo at h
    by_cases hlt : k < l.length
    · have hb := tok_bounds l k hlt
      rw [if_pos hlt] at h
      rcases List.mem_cons.1 h with rfl | h
      · exact ⟨by dsimp only; omega, hb.2⟩
      · exact scan_sub l f _ hb.2 t h
    · rw [if_neg hlt] at h
      simp at h
      subst h
      exact ⟨Nat.le_refl _, Nat.le_refl _⟩

theorem names_sub (l : List UInt8) (t : Tok) (h : t ∈ namesL l) : t.2.1 ≤ t.2.2 ∧ t.2.2 ≤ l.length :=
  scan_sub l _ 0 (Nat.zero_le _) t (List.mem_filter.1 h).1

theorem names_len (l : List UInt8) : (namesL l).length ≤ l.length + 1 := by
  have h1 := List.length_filter_le namedT (scanL l)
  have h2 := (scan_ends l (l.length + 1) 0 (by omega) (Nat.zero_le _)).2
  have h3 : (scanL l).length ≤ l.length + 1 := h2
  exact Nat.le_trans h1 h3

theorem putP_len (F : Spell) (k : List UInt8) (p : Plc) : (putP F k p).length ≤ F.length + 1 := by
  induction F with
  | nil => simp [putP]
  | cons f r ih =>
    unfold putP
    split
    · simp
    · simp only [List.length_cons]; omega

theorem getP_put (F : Spell) (k k' : List UInt8) (p : Plc) : getP (putP F k p) k' = getP F k' ++ (if k = k' then [p] else []) := by
  induction F with
  | nil => simp [putP, getP]
  | cons f r ih =>
    unfold putP
    by_cases hk : f.1 = k
    · rw [if_pos hk]
      unfold getP
      dsimp only
      by_cases h' : k = k'
      · rw [if_pos h', if_pos h', if_pos (hk.trans h')]
      · rw [if_neg h', if_neg h', if_neg (fun e => h' (hk ▸ e)), List.append_nil]
    · rw [if_neg hk]
      unfold getP
      by_cases h' : f.1 = k'
      · rw [if_pos h', if_pos h', if_neg (fun e => hk (h'.trans e.symm)), List.append_nil]
      · rw [if_neg h', if_neg h', ih]

theorem getP_put_len (F : Spell) (k k' : List UInt8) (p : Plc) : (getP (putP F k p) k').length ≤ (getP F k').length + 1 := by
  rw [getP_put, List.length_append]
  split <;> simp

theorem strV_ext (s : ByteArray) (a b : Nat) : strV (sub s.data.toList a b) = .string (s.extract a b) := by
  rw [sub, ← Lib.extract_data, strV_data]

end Go.Proofs.YtbbibngagdpdcaaGreatDoor
