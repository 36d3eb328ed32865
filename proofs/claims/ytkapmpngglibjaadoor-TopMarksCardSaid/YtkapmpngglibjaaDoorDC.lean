/- Marks of two classes: what an order of them keeps, when they stand in order. Plain. Conditions: each law's own premises. -/
import Derived.Test.YtkapmpngglibjaaDoorDB
namespace Go.Proofs.YtkapmpngglibjaaDoor
open Go Go.RowKit

def isM (r : Int) : Prop := r = 768 ∨ r = 769 ∨ r = 776 ∨ r = 807
def zr (r : Int) : Bool := r == 807
def zt (d : List Int) (k : Nat) : Bool := zr (d.getD k 0)
def Mk (d : List Int) : Prop := ∀ x ∈ d, isM x

theorem mk_at {d : List Int} (h : Mk d) {k : Nat} (hk : k < d.length) : isM (d.getD k 0) := by
  rw [List.getD_eq_getElem?_getD, List.getElem?_eq_getElem hk]
  exact h _ (List.getElem_mem hk)

/-- The class of one mark is below that of another. -/
theorem cls_lt {x y : Int} (hx : isM x) (hy : isM y) : clsR x - clsR y < 0 ↔ zr x = true ∧ zr y = false := by
  rcases hx with rfl | rfl | rfl | rfl <;> rcases hy with rfl | rfl | rfl | rfl <;> decide

structure Rel (a b : Nat) (d d' : List Int) : Prop where
  len : d'.length = d.length
  out : ∀ k, k < a ∨ b ≤ k → d'.getD k 0 = d.getD k 0
  fil : d'.filter (fun x => !zr x) = d.filter (fun x => !zr x)
  con : ∀ c, (∀ k, a ≤ k → k < b → zt d k = c) → ∀ k, a ≤ k → k < b → zt d' k = c
  mem : ∀ x ∈ d', x ∈ d

theorem Rel.refl (a b : Nat) (d : List Int) : Rel a b d d := ⟨rfl, fun _ _ => rfl, rfl, fun _ h => h, fun _ h => h⟩
theorem Rel.trans {a b : Nat} {d d1 d2 : List Int} (h : Rel a b d d1) (k : Rel a b d1 d2) : Rel a b d d2 :=
  ⟨k.len.trans h.len, fun i hi => (k.out i hi).trans (h.out i hi), k.fil.trans h.fil, fun c hc => k.con c (h.con c hc), fun x hx => h.mem x (k.mem x hx)⟩
theorem Rel.zout {a b : Nat} {d d' : List Int} (h : Rel a b d d') {k : Nat} (hk : k < a ∨ b ≤ k) : zt d' k = zt d k := by unfold zt; rw [h.out k hk]
theorem Rel.wide {a b a' b' : Nat} {d d' : List Int} (h : Rel a' b' d d') (ha : a ≤ a') (hb : b' ≤ b) : Rel a b d d' :=
  ⟨h.len, fun k hk => h.out k (by omega), h.fil, fun c hc k h1 h2 => by
    by_cases hi : a' ≤ k ∧ k < b'
    · exact h.con c (fun i g1 g2 => hc i (by omega) (by omega)) k hi.1 hi.2
    · rw [h.zout (by omega)]
      exact hc k h1 h2, h.mem⟩
theorem Rel.marks {a b : Nat} {d d' : List Int} (h : Rel a b d d') (hm : Mk d) : Mk d' := fun x hx => hm x (h.mem x hx)

def Srt (a b : Nat) (d : List Int) : Prop := ∀ i j, a ≤ i → i < j → j < b → zt d j = true → zt d i = true

theorem swp_get (d : List Int) (i j k : Nat) (hi : i < d.length) (hj : j < d.length) : (swp d i j).getD k 0 = if k = j then d.getD i 0 else if k = i then d.getD j 0 else d.getD k 0 := by
  unfold swp
  simp only [List.getD_eq_getElem?_getD]
  by_cases h1 : k = j
  · subst h1
    rw [if_pos rfl, List.getElem?_set_self (by rw [List.length_set]; exact hj)]
    rfl
  · rw [if_neg h1, List.getElem?_set_ne (Ne.symm h1)]
    by_cases h2 : k = i
    · subst h2
      rw [if_pos rfl, List.getElem?_set_self hi]
      rfl
    · rw [if_neg h2, List.getElem?_set_ne (Ne.symm h2)]

theorem split2 (d : List Int) (i : Nat) (h : i + 1 < d.length) : d = d.take i ++ d.getD i 0 :: d.getD (i + 1) 0 :: d.drop (i + 2) := by
  conv => lhs; rw [← List.take_append_drop i d]
  congr 1
  rw [List.drop_eq_getElem_cons (by omega), List.drop_eq_getElem_cons (by omega)]
  simp only [List.getD_eq_getElem?_getD, List.getElem?_eq_getElem (show i < d.length by omega), List.getElem?_eq_getElem h, Option.getD_some]

theorem swp_split (d : List Int) (i : Nat) (h : i + 1 < d.length) : swp d (i + 1) i = d.take i ++ d.getD (i + 1) 0 :: d.getD i 0 :: d.drop (i + 2) := by
  have e := split2 d i h
  apply List.ext_getElem?
  intro k
  have hl : (d.take i).length = i := by rw [List.length_take]; omega
  have hg : ∀ k, k < d.length → (swp d (i + 1) i)[k]? = some (if k = i then d.getD (i + 1) 0 else if k = i + 1 then d.getD i 0 else d.getD k 0) := fun k hk => by
    rw [getD_at (by rw [swp_len]; exact hk), swp_get d (i + 1) i k h (by omega)]
  by_cases hk : k < d.length
  · rw [hg k hk]
    by_cases h1 : k < i
    · rw [List.getElem?_append_left (by omega), List.getElem?_take_of_lt h1, if_neg (by omega), if_neg (by omega), getD_at hk]
    · by_cases h2 : k = i
      · subst h2
        rw [if_pos rfl, List.getElem?_append_right (by omega), hl]
        simp
      · by_cases h3 : k = i + 1
        · subst h3
          rw [if_neg (by omega), if_pos rfl, List.getElem?_append_right (by omega), hl, show i + 1 - i = 1 by omega]
          simp
        · rw [if_neg h2, if_neg h3, List.getElem?_append_right (by omega), hl]
          obtain ⟨m, rfl⟩ : ∃ m, k = i + 2 + m := ⟨k - (i + 2), by omega⟩
          rw [show i + 2 + m - i = m + 2 by omega, List.getElem?_cons_succ, List.getElem?_cons_succ, List.getElem?_drop, getD_at hk]
  · rw [List.getElem?_eq_none (by rw [swp_len]; omega), List.getElem?_eq_none (by simp [hl]; omega)]

/-- Two neighbours change places, of which the one behind is of the lower class. -/
theorem Rel.swap {d : List Int} {a b i : Nat} (h : i + 1 < d.length) (ha : a ≤ i) (hb : i + 1 < b) (h1 : zt d (i + 1) = true) (h0 : zt d i = false) : Rel a b d (swp d (i + 1) i) := by
  refine ⟨swp_len _ _ _, fun k hk => ?_, ?_, fun c hc k _ _ => ?_, fun x hx => ?_⟩
  · rw [swp_get _ _ _ _ h (by omega), if_neg (by omega), if_neg (by omega)]
  · rw [swp_split d i h]
    conv => rhs; rw [split2 d i h]
    unfold zt at h0 h1
    generalize d.getD (i + 1) 0 = x at *
    generalize d.getD i 0 = y at *
    rw [List.filter_append, List.filter_append]
    simp [h0, h1]
  · have e1 := hc i ha (by omega)
    have e2 := hc (i + 1) (by omega) hb
    rw [h0] at e1
    rw [h1] at e2
    rw [← e1] at e2
    cases e2
  · rw [swp_split d i h] at hx
    rw [split2 d i h]
    simp only [List.mem_append, List.mem_cons] at hx ⊢
    rcases hx with h | h | h | h
    · exact .inl h
    · exact .inr (.inr (.inl h))
    · exact .inr (.inl h)
    · exact .inr (.inr (.inr h))

theorem swp_comm (d : List Int) (i j : Nat) (hij : i ≠ j) : swp d i j = swp d j i := by
  unfold swp
  rw [List.set_comm _ _ hij]

theorem zt_swp (d : List Int) (i k : Nat) (h : i + 1 < d.length) : zt (swp d (i + 1) i) k = if k = i then zt d (i + 1) else if k = i + 1 then zt d i else zt d k := by
  unfold zt
  rw [swp_get _ _ _ _ h (by omega)]
  repeat' split
  all_goals rfl

/-- Sorting by insertion: all is in order up to i, but for the one at j. -/
def InsAt (a i j : Nat) (d : List Int) : Prop := ∀ p q, a ≤ p → p < q → q ≤ i → q ≠ j → zt d q = true → zt d p = true

theorem InsAt.step {a i j : Nat} {d : List Int} (h : InsAt a i (j + 1) d) (hl : i < d.length) (haj : a ≤ j) (hj : j + 1 ≤ i) (h1 : zt d (j + 1) = true) (h0 : zt d j = false) : InsAt a i j (swp d (j + 1) j) := by
  intro p q hp hpq hq hne hz
  have hlen : j + 1 < d.length := by omega
  rw [zt_swp _ _ _ hlen] at hz ⊢
  rw [if_neg hne] at hz
  by_cases hq1 : q = j + 1
  · rw [if_pos hq1, h0] at hz
    cases hz
  · rw [if_neg hq1] at hz
    by_cases hp0 : p = j
    · rw [if_pos hp0, h1]
    · rw [if_neg hp0]
      by_cases hp1 : p = j + 1
      · rw [if_pos hp1]
        exact h j q (by omega) (by omega) hq (by omega) hz
      · rw [if_neg hp1]
        exact h p q hp hpq hq hq1 hz

theorem InsAt.done_not {a i j : Nat} {d : List Int} (h : InsAt a i (j + 1) d) (haj : a ≤ j) (hz : zt d (j + 1) = true → zt d j = true) : Srt a (i + 1) d := by
  intro p q hp hpq hq hzq
  by_cases hqj : q = j + 1
  · subst hqj
    by_cases hpj : p = j
    · subst hpj; exact hz hzq
    · exact h p j hp (by omega) (by omega) (by omega) (hz hzq)
  · exact h p q hp hpq (by omega) hqj hzq
theorem InsAt.done_at {a i : Nat} {d : List Int} (h : InsAt a i a d) : Srt a (i + 1) d := fun p q hp hpq hq hzq => h p q hp hpq (by omega) (by omega) hzq

end Go.Proofs.YtkapmpngglibjaaDoor
