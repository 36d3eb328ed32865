/- The reference's way to apply changes, and that it is the program's: plain. No condition beyond each law's own. -/
import Derived.Test.YtkapmpngglibjaaRowF
namespace Go.Proofs.Ytkapmpngglibjaa
open Go Go.RowKit

/-! ### the reference's way: plain -/

def step1 (c : Chg) (s : List Chg × Bool) (x : Chg) : List Chg × Bool :=
  let s1 := if !s.2 && (bl c.key.toList x.key.toList || c.key.toList == x.key.toList) then (s.1 ++ [c], true) else s
  if x.key.toList == c.key.toList then s1 else (s1.1 ++ [x], s1.2)
def ref1 (l : List Chg) (c : Chg) : List Chg := let s := l.foldl (step1 c) ([], c.gone); if s.2 then s.1 else s.1 ++ [c]
def refL (l m : List Chg) : List Chg := m.foldl ref1 l

/-- Rows below the key are taken as they are. -/
theorem fold_below (c : Chg) : ∀ (l n : List Chg) (b : Bool), (∀ x ∈ l, bl x.key.toList c.key.toList = true) → l.foldl (step1 c) (n, b) = (n ++ l, b)
  | [], n, b, _ => by simp
  | x :: l, n, b, h => by
    have h1 := h x (by simp)
    have h2 := bl_asymm h1
    have h3 : (x.key.toList == c.key.toList) = false := by simpa using bl_ne h1
    have h4 : (c.key.toList == x.key.toList) = false := by simpa using (bl_ne h1).symm
    rw [List.foldl_cons, show step1 c (n, b) x = (n ++ [x], b) by simp [step1, h2, h3, h4], fold_below c l _ b (fun y hy => h y (by simp [hy]))]
    simp

/-- Behind it, once it is laid, too. -/
theorem fold_above (c : Chg) : ∀ (l n : List Chg), (∀ x ∈ l, bl c.key.toList x.key.toList = true) → l.foldl (step1 c) (n, true) = (n ++ l, true)
  | [], n, _ => by simp
  | x :: l, n, h => by
    have h1 := h x (by simp)
    have h3 : (x.key.toList == c.key.toList) = false := by simpa using (bl_ne h1).symm
    rw [List.foldl_cons, show step1 c (n, true) x = (n ++ [x], true) by simp [step1, h3], fold_above c l _ (fun y hy => h y (by simp [hy]))]
    simp

theorem ref1_put1 {l : List Chg} (hs : Rising l) (c : Chg) : ref1 l c = put1 l c := by
  have hlo := low_below l c.key
  have hup : ∀ y ∈ l.drop (lowOf l c.key + 1), bl c.key.toList y.key.toList = true := fun y hy => by
    obtain ⟨i, hi⟩ := List.getElem?_of_mem hy
    rw [List.getElem?_drop] at hi
    exact low_above hs c.key _ y (by omega) hi
  have hfold : l.foldl (step1 c) ([], c.gone) = (l.drop (lowOf l c.key)).foldl (step1 c) (l.take (lowOf l c.key), c.gone) := by
    conv => lhs; rw [← List.take_append_drop (lowOf l c.key) l]
    rw [List.foldl_append, fold_below c _ _ _ hlo, List.nil_append]
  unfold ref1
  rw [hfold]
  cases hn : l[lowOf l c.key]? with
  | none =>
    have hd : l.drop (lowOf l c.key) = [] := by
      rw [List.drop_eq_nil_iff]
      exact List.getElem?_eq_none_iff.1 hn
    have hh : hasAt l c.key = false := by rw [hasAt, hn]
    have htk : l.take (lowOf l c.key) = l := by
      rw [List.take_of_length_le (List.getElem?_eq_none_iff.1 hn)]
    rw [put1, hh, hd, htk]
    cases hg : c.gone <;> simp
  | some d =>
    have hlt := (List.getElem?_eq_some_iff.1 hn).1
    have hdd : l.drop (lowOf l c.key) = d :: l.drop (lowOf l c.key + 1) := by
      obtain ⟨h1, h2⟩ := List.getElem?_eq_some_iff.1 hn
      rw [List.drop_eq_getElem_cons h1, h2]
    have h1 := low_next l c.key d hn
    rw [hdd, List.foldl_cons]
    cases hh : hasAt l c.key with
    | true =>
      have he : d.key.toList = c.key.toList := by
        rw [hasAt, hn] at hh
        simpa using hh
      have hb : bl c.key.toList c.key.toList = false := bl_irrefl _
      rw [put1, hh]
      cases hg : c.gone
      · rw [show step1 c (l.take (lowOf l c.key), false) d = (l.take (lowOf l c.key) ++ [c], true) by simp [step1, he], fold_above c _ _ hup]
        simp
      · rw [show step1 c (l.take (lowOf l c.key), true) d = (l.take (lowOf l c.key), true) by simp [step1, he], fold_above c _ _ hup]
        simp
    | false =>
      have ha := low_at c.key hh d hn
      have hne : (d.key.toList == c.key.toList) = false := by simpa using (bl_ne ha).symm
      rw [put1, hh]
      cases hg : c.gone
      · rw [show step1 c (l.take (lowOf l c.key), false) d = (l.take (lowOf l c.key) ++ [c] ++ [d], true) by simp [step1, ha, hne], fold_above c _ _ hup, hdd]
        simp
      · rw [show step1 c (l.take (lowOf l c.key), true) d = (l.take (lowOf l c.key) ++ [d], true) by simp [step1, hne], fold_above c _ _ hup]
        simp only [Bool.false_eq_true, if_false, if_true]
        conv => rhs; rw [← List.take_append_drop (lowOf l c.key) l]
        rw [hdd]
        simp

theorem refL_applyL : ∀ (m l : List Chg), Rising l → refL l m = applyL l m
  | [], _, _ => rfl
  | c :: m, l, h => by
    have h1 := ref1_put1 h c
    have ih := refL_applyL m (put1 l c) (put1_rising h c)
    simp only [refL, applyL, List.foldl_cons] at *
    rw [h1, ih]

theorem owns_base {w : World} {b b' : Nat} {e : TypeId} {s : Nat} {v : Value} {n : Nat} {xs : List Value} (h : w.ownsRow b e s v n xs) (hb : b' ≤ b) : w.ownsRow b' e s v n xs :=
  ⟨h.1, h.2.imp id (fun ⟨g, cap, cur, a, hg, c⟩ => ⟨g, cap, cur, a, Nat.le_trans hb hg, c⟩)⟩

theorem step1_length (c : Chg) (s : List Chg × Bool) (x : Chg) : (step1 c s x).1.length ≤ s.1.length + 2 ∧ ((step1 c s x).2 = false → (step1 c s x).1.length ≤ s.1.length + 1) := by
  unfold step1
  cases s.2 <;> cases (bl c.key.toList x.key.toList || c.key.toList == x.key.toList) <;> cases (x.key.toList == c.key.toList) <;> simp

end Go.Proofs.Ytkapmpngglibjaa
