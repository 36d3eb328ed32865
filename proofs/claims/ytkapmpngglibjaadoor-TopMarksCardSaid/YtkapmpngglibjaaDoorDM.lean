/- A text's runes where a mark begins; how many marks a text's signs give. Plain. Conditions: each law's own premises. -/
import Derived.Test.YtkapmpngglibjaaDoorDL
import Derived.Lib.MapLaws
namespace Go.Proofs.YtkapmpngglibjaaDoor
open Go Go.RowKit Go.Lib

theorem decodeN_cut (n n' b0 b1 b2 b3 c1 c2 c3 : Nat) (hn : 1 ≤ n) (hnn : n ≤ n') (h1 : 1 < n → c1 = b1) (h1' : n = 1 → c1 / 64 ≠ 2) (h2 : 2 < n → c2 = b2) (h2' : n = 2 → c2 / 64 ≠ 2) (h3 : 3 < n → c3 = b3) (h3' : n = 3 → c3 / 64 ≠ 2) :
    decodeN n' b0 c1 c2 c3 = decodeN n b0 b1 b2 b3 := by
  by_cases e1 : n = 1
  · subst e1
    simp [decodeN, h1' rfl]
  · have g1 := h1 (by omega)
    subst g1
    by_cases e2 : n = 2
    · subst e2
      simp [decodeN, h2' rfl, show 1 < n' by omega]
    · have g2 := h2 (by omega)
      subst g2
      by_cases e3 : n = 3
      · subst e3
        simp [decodeN, h3' rfl, show 1 < n' by omega, show 2 < n' by omega]
      · have g3 := h3 (by omega)
        subst g3
        simp only [decodeN, show 1 < n' by omega, show 2 < n' by omega, show 3 < n' by omega, show 1 < n by omega, show 2 < n by omega, show 3 < n by omega]

theorem getD_left (a t : List UInt8) {k : Nat} (h : k < a.length) : (a ++ t).getD k 0 = a.getD k 0 := by
  rw [List.getD_eq_getElem?_getD, List.getElem?_append_left h, ← List.getD_eq_getElem?_getD]
theorem getD_edge (a : List UInt8) (x : UInt8) (t : List UInt8) : (a ++ x :: t).getD a.length 0 = x := by
  rw [List.getD_eq_getElem?_getD, List.getElem?_append_right (Nat.le_refl _), Nat.sub_self]
  rfl

theorem edge_not (a t : List UInt8) {k : Nat} (h : a.length = k) : ((a ++ 204 :: t).getD k 0).toNat / 64 ≠ 2 := by
  subst h
  rw [getD_edge]
  decide

theorem decodeL_cut (a t : List UInt8) (ha : a ≠ []) : decodeL (a ++ 204 :: t) = decodeL a := by
  have hl : 0 < a.length := List.length_pos_iff.2 ha
  rw [decodeL_N, decodeL_N, getD_left a _ hl]
  exact decodeN_cut _ _ _ _ _ _ _ _ _ hl (by simp) (fun h => by rw [getD_left a _ h]) (edge_not a t) (fun h => by rw [getD_left a _ h]) (edge_not a t) (fun h => by rw [getD_left a _ h]) (edge_not a t)

theorem runesL_cut : ∀ (n : Nat) (a t : List UInt8), a.length ≤ n → runesL (a ++ 204 :: t) = runesL a ++ runesL (204 :: t)
  | 0, a, t, h => by
    obtain rfl : a = [] := List.eq_nil_of_length_eq_zero (by omega)
    rfl
  | n + 1, a, t, h => by
    by_cases ha : a = []
    · subst ha; rfl
    · have hw := decodeL_width a
      have hle := decodeL_le a ha
      rw [runesL_step _ (by simp), runesL_step a ha, decodeL_cut a t ha, List.drop_append_of_le_length hle, runesL_cut n _ t (by rw [List.length_drop]; omega)]
      rfl

/-- The four marks' bytes. -/
def encM (r : Int) : List UInt8 := [204, if r = 768 then 128 else if r = 769 then 129 else if r = 776 then 136 else 167]

theorem decodeL_mark (x : UInt8) (t : List UInt8) (hx : 128 ≤ x.toNat ∧ x.toNat < 192) : decodeL (204 :: x :: t) = (768 + (x.toNat - 128), 2) := by
  rw [decodeL_N]
  show decodeN (t.length + 1 + 1) 204 x.toNat _ _ = _
  have h1 : x.toNat / 64 = 2 := by omega
  have h2 : x.toNat % 64 = x.toNat - 128 := by omega
  simp only [decodeN, h1, h2]
  rw [if_neg (by decide), if_pos ⟨by decide, by omega, trivial⟩]
  simp
  omega

theorem runesL_mark {r : Int} (hr : isM r) (t : List UInt8) : runesL (encM r ++ t) = r :: runesL t := by
  have key : ∀ (x : UInt8), 128 ≤ x.toNat ∧ x.toNat < 192 → runesL (204 :: x :: t) = ((768 + (x.toNat - 128) : Nat) : Int) :: runesL t := fun x hx => by
    rw [runesL_step _ (by simp), decodeL_mark x t hx]
    rfl
  rcases hr with rfl | rfl | rfl | rfl
  · exact key 128 (by decide)
  · exact key 129 (by decide)
  · exact key 136 (by decide)
  · exact key 167 (by decide)

theorem runesL_two {m n : Int} (hm : isM m) (hn : isM n) (a b : List UInt8) : runesL (a ++ encM m ++ encM n ++ b) = runesL a ++ m :: n :: runesL b := by
  have e : a ++ encM m ++ encM n ++ b = a ++ 204 :: ((encM m).drop 1 ++ (encM n ++ b)) := by simp [encM]
  rw [e, runesL_cut _ _ _ (Nat.le_refl _)]
  have e2 : (204 : UInt8) :: ((encM m).drop 1 ++ (encM n ++ b)) = encM m ++ (encM n ++ b) := by simp [encM]
  rw [e2, runesL_mark hm, runesL_mark hn]

/-! ### how many -/

def mkN (l : List Int) : Nat := (l.filter (fun x => clsR x != 0)).length
theorem mkN_append (a b : List Int) : mkN (a ++ b) = mkN a + mkN b := by simp [mkN]

theorem decodeL_one (l : List UInt8) (h : (decodeL l).2 = 1) : (decodeL l).1 < 128 ∨ (decodeL l).1 = 65533 := by
  rw [decodeL_N] at h ⊢
  unfold decodeN at h ⊢
  repeat' split at h
  all_goals first
    | (exfalso; simp only at h; omega)
    | (repeat' split
       all_goals first
         | (exfalso; omega)
         | (left; omega)
         | (right; rfl)
         | (simp only; omega))

theorem whole_runes : ∀ row ∈ wholeL, ∀ x ∈ runesL row.1, 192 ≤ x ∧ x ≤ 255 := by decide +kernel
theorem splitR_far {r : Int} (h : r < 192 ∨ 255 < r) : splitR r = [r] := splitR_none fun j row _ hrow hmem => by
  have := whole_runes row (List.mem_of_getElem? hrow) r hmem
  omega
theorem splitR_mark {r : Int} (h : isM r) : splitR r = [r] := splitR_far (by rcases h with rfl | rfl | rfl | rfl <;> omega)
theorem cls_of_isM {r : Int} (h : isM r) : clsR r ≠ 0 := by rcases h with rfl | rfl | rfl | rfl <;> decide
theorem isM_of_cls {r : Int} (h : clsR r ≠ 0) : isM r := by
  unfold clsR at h
  unfold isM
  split at h
  · exact .inl ‹_›
  · split at h
    · exact .inr (.inl ‹_›)
    · split at h
      · exact .inr (.inr (.inl ‹_›))
      · split at h
        · exact .inr (.inr (.inr ‹_›))
        · exact absurd rfl h
theorem cls_far {r : Int} (h : r < 768 ∨ 807 < r) : clsR r = 0 := Decidable.byContradiction fun hc => by rcases isM_of_cls hc with rfl | rfl | rfl | rfl <;> omega

theorem byteI_cls (l : List UInt8) (k : Nat) : clsR (byteI l k) = 0 := cls_far (.inl (by unfold byteI; have := (l.getD k 0).toNat_lt; omega))
theorem splitIn_mkN (r : Int) : ∀ t, mkN (splitIn r t) ≤ 1 ∧ (splitIn r t).length ≤ 2 ∧ splitIn r t ≠ []
  | [] => by
    refine ⟨?_, by simp [splitIn], by simp [splitIn]⟩
    unfold mkN splitIn
    exact List.length_filter_le _ _
  | ((s, l), m) :: t => by
    rw [splitIn]
    split
    · rename_i k _
      refine ⟨?_, by simp, by simp⟩
      unfold mkN
      rw [List.filter_cons, if_neg (by rw [byteI_cls]; decide)]
      exact List.length_filter_le _ _
    · exact splitIn_mkN r t
theorem splitR_mkN (r : Int) : mkN (splitR r) ≤ 1 ∧ (splitR r).length ≤ 2 ∧ splitR r ≠ [] := splitIn_mkN r _

def allR (l : List UInt8) : List Int := (runesL l).flatMap splitR
theorem allR_step (l : List UInt8) (hne : l ≠ []) : allR l = splitR ((decodeL l).1 : Int) ++ allR (l.drop (decodeL l).2) := by
  unfold allR
  rw [runesL_step l hne, List.flatMap_cons]

theorem allR_bounds : ∀ (n : Nat) (l : List UInt8), l.length ≤ n → 2 * mkN (allR l) ≤ l.length ∧ (allR l).length ≤ 2 * l.length
  | 0, l, h => by
    obtain rfl : l = [] := List.eq_nil_of_length_eq_zero (by omega)
    exact ⟨Nat.le_refl _, Nat.le_refl _⟩
  | n + 1, l, h => by
    by_cases hne : l = []
    · subst hne
      exact ⟨Nat.le_refl _, Nat.le_refl _⟩
    · have hw := decodeL_width l
      have hle := decodeL_le l hne
      have ih := allR_bounds n (l.drop (decodeL l).2) (by rw [List.length_drop]; omega)
      rw [List.length_drop] at ih
      have hs := splitR_mkN ((decodeL l).1 : Int)
      rw [allR_step l hne, mkN_append, List.length_append]
      refine ⟨?_, by omega⟩
      by_cases h1 : (decodeL l).2 = 1
      · have h0 : mkN (splitR ((decodeL l).1 : Int)) = 0 := by
          have hd := decodeL_one l h1
          rw [splitR_far (by omega)]
          unfold mkN
          rw [List.filter_cons, if_neg (by rw [cls_far (by omega)]; decide)]
          rfl
        omega
      · omega

end Go.Proofs.YtkapmpngglibjaaDoor
