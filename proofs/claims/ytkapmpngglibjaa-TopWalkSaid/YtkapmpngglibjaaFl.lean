/- Slices of elements of several cells: rows, and their cells in one list. No condition beyond each law's own. -/
import Derived.Test.YtkapmpngglibjaaSl
import Derived.Test.YtkapmpngglibjaaOpen
namespace Go.Proofs.Ytkapmpngglibjaa
open Go Go.RowKit

/-! ### rows of elements, and their cells in one list -/

theorem flatten_length {s : Nat} : ∀ (rows : List (List Value)), (∀ r ∈ rows, r.length = s) → rows.flatten.length = rows.length * s
  | [], _ => by simp
  | r :: l, h => by
    rw [List.flatten_cons, List.length_append, h r (by simp), flatten_length l (fun x hx => h x (by simp [hx])), List.length_cons, Nat.add_mul]
    omega

theorem flatten_get {s : Nat} : ∀ (rows : List (List Value)) (_ : ∀ r ∈ rows, r.length = s) (i k : Nat) (r : List Value), k < s → rows[i]? = some r → rows.flatten[i * s + k]? = r[k]?
  | [], _, i, k, r, _, h => by simp at h
  | x :: l, hl, i, k, r, hk, h => by
    have hx := hl x (by simp)
    cases i with
    | zero =>
      simp at h
      subst h
      rw [List.flatten_cons, Nat.zero_mul, Nat.zero_add, List.getElem?_append_left (by omega)]
    | succ i =>
      have ih := flatten_get l (fun y hy => hl y (by simp [hy])) i k r hk (by simpa using h)
      rw [List.flatten_cons, List.getElem?_append_right (by rw [hx, Nat.add_mul]; omega), ← ih]
      congr 1
      rw [hx, Nat.add_mul]
      omega

/-- Each place of the one list is a place of a row. -/
theorem flatten_place {s : Nat} (rows : List (List Value)) (hl : ∀ r ∈ rows, r.length = s) (j : Nat) (u : Value) (h : rows.flatten[j]? = some u) :
    ∃ i k r, k < s ∧ j = i * s + k ∧ rows[i]? = some r ∧ r[k]? = some u := by
  have hj : j < rows.length * s := by
    have := (List.getElem?_eq_some_iff.1 h).1
    rwa [flatten_length rows hl] at this
  have hs : 0 < s := by
    rcases Nat.eq_zero_or_pos s with h0 | h0
    · subst h0; omega
    · exact h0
  have hi : j / s < rows.length := by rw [Nat.div_lt_iff_lt_mul hs]; exact hj
  have hk : j % s < s := Nat.mod_lt _ hs
  have hjj : j = j / s * s + j % s := by rw [Nat.mul_comm]; exact (Nat.div_add_mod j s).symm
  refine ⟨j / s, j % s, rows[j / s], hk, hjj, List.getElem?_eq_getElem hi, ?_⟩
  rw [← flatten_get rows hl (j / s) (j % s) rows[j / s] hk (List.getElem?_eq_getElem hi), ← hjj]
  exact h

theorem SliceAt.flat {w : World} {v : Value} {rows : List (List Value)} {s : Nat} (h : SliceAt w v rows s) (hl : ∀ r ∈ rows, r.length = s) (hn : 0 < rows.length) :
    ∃ b off cap, v = .slice (some ⟨b, off, none⟩) rows.length cap ∧ ∀ j u, rows.flatten[j]? = some u → w.cell? ((⟨b, off, none⟩ : Addr).add j) = some u := by
  obtain ⟨ao, cap, rfl, hm, hr⟩ := h
  obtain ⟨b, off, rfl, -⟩ := hr 0 _ (List.getElem?_eq_getElem hn)
  refine ⟨b, off, cap, rfl, fun j u hu => ?_⟩
  obtain ⟨i, k, r, hk, rfl, hi, hr'⟩ := flatten_place rows hl j u hu
  obtain ⟨b', off', hb, hc⟩ := hr i r hi
  cases hb
  rw [add_off, ← Nat.add_assoc]
  exact hc k u hr'

theorem SliceAt.of_owns {w : World} {base : Nat} {e : TypeId} {s : Nat} {v : Value} {rows : List (List Value)} (hl : ∀ r ∈ rows, r.length = s) (h : w.ownsRow base e s v rows.length rows.flatten) : SliceAt w v rows s := by
  rcases h.2 with ⟨rfl, h0⟩ | ⟨g, cap, cur, rfl, hb, hg, h1, h2, h3, h4⟩
  · refine ⟨none, 0, by rw [h0], by rw [h0]; unfold maxLen; omega, fun i r hi => ?_⟩
    rw [List.eq_nil_of_length_eq_zero h0] at hi
    cases hi
  · refine ⟨some ⟨g, 0, none⟩, cap, rfl, Nat.le_trans h1 h2, fun i r hi => ⟨g, 0, rfl, fun j u hu => ?_⟩⟩
    have hr : r.length = s := hl r (List.mem_of_getElem? hi)
    have hj : j < s := by rw [← hr]; exact (List.getElem?_eq_some_iff.1 hu).1
    have := flatten_get rows hl i j r hj hi
    rw [hu, ← h4] at this
    rw [Nat.zero_add, cell_of hg]
    rw [← Array.getElem?_toList]
    exact getElem_of_take rfl _ _ this

end Go.Proofs.Ytkapmpngglibjaa
