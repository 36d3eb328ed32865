/- Changes to rows that rise: plain. And an owned slice of changes. Conditions: each law's own. -/
import Derived.Test.YtkapmpngglibjaaRowD
import Derived.Test.YtkapmpngglibjaaRowE
namespace Go.Proofs.Ytkapmpngglibjaa
open Go Go.RowKit

/-! ### changes in one list of cells -/

def flC (l : List Chg) : List Value := (l.map Chg.cells).flatten
theorem flC_append (a b : List Chg) : flC (a ++ b) = flC a ++ flC b := by simp [flC]
theorem flC_cons (c : Chg) (b : List Chg) : flC (c :: b) = c.cells ++ flC b := by simp [flC]
theorem flC_length (l : List Chg) : (flC l).length = l.length * 3 := by
  rw [flC, flatten_length (s := 3) _ (by intro r hr; obtain ⟨c, -, rfl⟩ := List.mem_map.1 hr; rfl), List.length_map]
theorem flC_one (l : List Chg) : ∀ u ∈ flC l, u.oneCell' = true := by
  intro u hu
  obtain ⟨r, hr, hur⟩ := List.mem_flatten.1 hu
  obtain ⟨c, -, rfl⟩ := List.mem_map.1 hr
  simp only [Chg.cells, List.mem_cons, List.not_mem_nil, or_false] at hur
  rcases hur with rfl | rfl | rfl <;> rfl

/-- An owned slice that holds these changes. -/
def OwnC (w : World) (v : Value) (l : List Chg) : Prop := w.ownsRow 0 64 3 v l.length (flC l)

theorem cells_len (l : List Chg) : ∀ r ∈ l.map Chg.cells, r.length = 3 := by
  intro r hr; obtain ⟨c, -, rfl⟩ := List.mem_map.1 hr; rfl

theorem OwnC.at {w : World} {v : Value} {l : List Chg} (h : OwnC w v l) : ChangesAt w v l :=
  SliceAt.of_owns (cells_len l) (by rw [List.length_map]; exact h)

theorem OwnC.frame {X : List Nat} {w w' : World} {v : Value} {l : List Chg} (h : OwnC w v l) (hf : Frame X w w') (hX : ∀ k, v.ownBlock = some k → k ∉ X) : OwnC w' v l := owns_frame h hf hX

/-- One cell of an owned row is written. -/
theorem owns_setK {w : World} {e : TypeId} {s g n cap : Nat} {xs : List Value} (h : w.ownsRow 0 e s (.slice (some ⟨g, 0, none⟩) n cap) n xs) (i : Nat) (u : Value) :
    (w.setCell ⟨g, i, none⟩ u).ownsRow 0 e s (.slice (some ⟨g, 0, none⟩) n cap) n (xs.set i u) := by
  rcases h.2 with ⟨h2, _⟩ | ⟨g', cap', cur, hv, hg, hh, h1, h2, h3, h4⟩
  · cases h2
  · cases hv
    refine ⟨by simpa using h.1, .inr ⟨g, cap, cur.setIfInBounds i u, rfl, hg, heap_set_same i u hh, h1, h2, by simpa using h3, ?_⟩⟩
    rw [Array.toList_setIfInBounds, ← h4, List.take_set]

theorem set_three (xa xb : List Value) (a b c a' b' c' : Value) (i : Nat) (h : xa.length = i) :
    (((xa ++ [a, b, c] ++ xb).set i a').set (i + 1) b').set (i + 2) c' = xa ++ [a', b', c'] ++ xb := by
  subst h
  simp

/-! ### one change to rows -/

def put1 (l : List Chg) (c : Chg) : List Chg :=
  if hasAt l c.key then (if c.gone then l.take (lowOf l c.key) ++ l.drop (lowOf l c.key + 1) else l.take (lowOf l c.key) ++ c :: l.drop (lowOf l c.key + 1))
  else if c.gone then l else l.take (lowOf l c.key) ++ c :: l.drop (lowOf l c.key)

def applyL (l m : List Chg) : List Chg := m.foldl put1 l

theorem low_lt {l : List Chg} {k : ByteArray} (h : hasAt l k = true) : ∃ c, l[lowOf l k]? = some c ∧ c.key.toList = k.toList := by
  unfold hasAt at h
  split at h
  · exact ⟨_, by assumption, by simpa using h⟩
  · cases h

theorem low_below : ∀ (l : List Chg) (k : ByteArray) (c : Chg), c ∈ l.take (lowOf l k) → bl c.key.toList k.toList = true
  | [], k, c, h => by simp at h
  | x :: l, k, c, h => by
    unfold lowOf at h
    by_cases hx : bl x.key.toList k.toList = true
    · simp only [List.takeWhile_cons, hx, if_true, List.length_cons, List.take_succ_cons, List.mem_cons] at h
      rcases h with rfl | h
      · exact hx
      · exact low_below l k c h
    · simp [hx] at h

theorem low_next : ∀ (l : List Chg) (k : ByteArray) (c : Chg), l[lowOf l k]? = some c → bl c.key.toList k.toList = false
  | [], k, c, h => by simp at h
  | x :: l, k, c, h => by
    unfold lowOf at h
    by_cases hx : bl x.key.toList k.toList = true
    · simp only [List.takeWhile_cons, hx, if_true, List.length_cons, List.getElem?_cons_succ] at h
      exact low_next l k c h
    · simp [hx] at h
      subst h
      simpa using hx

/-- Behind the place all is above the key, or, at the place itself, is it. -/
theorem low_above {l : List Chg} (hs : Rising l) (k : ByteArray) (n : Nat) (c : Chg) (hn : lowOf l k < n) (h : l[n]? = some c) : bl k.toList c.key.toList = true := by
  obtain ⟨d, hd⟩ : ∃ d, l[lowOf l k]? = some d := by
    have := (List.getElem?_eq_some_iff.1 h).1
    exact ⟨_, List.getElem?_eq_getElem (by omega)⟩
  have h1 := low_next l k d hd
  have h2 := rising_get hs hn hd h
  rcases bl_false h1 with h3 | h3
  · rw [← h3]; exact h2
  · exact bl_trans _ _ _ h3 h2

theorem low_at {l : List Chg} (k : ByteArray) (h : hasAt l k = false) (c : Chg) (hc : l[lowOf l k]? = some c) : bl k.toList c.key.toList = true := by
  have h1 := low_next l k c hc
  rcases bl_false h1 with h3 | h3
  · rw [hasAt, hc] at h
    simp [h3] at h
  · exact h3

theorem put1_length (l : List Chg) (c : Chg) : (put1 l c).length ≤ l.length + 1 := by
  have := low_le l c.key
  unfold put1
  split
  · rename_i h
    obtain ⟨d, hd, -⟩ := low_lt h
    have := (List.getElem?_eq_some_iff.1 hd).1
    split <;> simp only [List.length_append, List.length_cons, List.length_take, List.length_drop] <;> omega
  · split
    · omega
    · simp only [List.length_append, List.length_cons, List.length_take, List.length_drop]; omega

theorem rising_append {a b : List Chg} (ha : Rising a) (hb : Rising b) (h : ∀ x ∈ a, ∀ y ∈ b, bl x.key.toList y.key.toList = true) : Rising (a ++ b) := List.pairwise_append.2 ⟨ha, hb, h⟩

theorem put1_rising {l : List Chg} (hs : Rising l) (c : Chg) : Rising (put1 l c) := by
  have hT : Rising (l.take (lowOf l c.key)) := List.Pairwise.sublist (List.take_sublist _ _) hs
  have hD : ∀ n, Rising (l.drop n) := fun n => List.Pairwise.sublist (List.drop_sublist _ _) hs
  have hlo := low_below l c.key
  have hup : ∀ y ∈ l.drop (lowOf l c.key + 1), bl c.key.toList y.key.toList = true := fun y hy => by
    obtain ⟨i, hi⟩ := List.getElem?_of_mem hy
    rw [List.getElem?_drop] at hi
    exact low_above hs c.key _ y (by omega) hi
  have hcons : ∀ n, (∀ y ∈ l.drop n, bl c.key.toList y.key.toList = true) → Rising (c :: l.drop n) := fun n h => List.pairwise_cons.2 ⟨h, hD n⟩
  have hmid : ∀ n, (∀ y ∈ l.drop n, bl c.key.toList y.key.toList = true) → Rising (l.take (lowOf l c.key) ++ c :: l.drop n) := fun n h =>
    rising_append hT (hcons n h) fun x hx y hy => by
      rcases List.mem_cons.1 hy with rfl | hy
      · exact hlo x hx
      · exact bl_trans _ _ _ (hlo x hx) (h y hy)
  unfold put1
  split
  · split
    · exact rising_append hT (hD _) fun x hx y hy => bl_trans _ _ _ (hlo x hx) (hup y hy)
    · exact hmid _ hup
  · rename_i h
    split
    · exact hs
    · refine hmid _ fun y hy => ?_
      obtain ⟨i, hi⟩ := List.getElem?_of_mem hy
      rw [List.getElem?_drop] at hi
      cases i with
      | zero => exact low_at c.key (by simpa using h) y (by simpa using hi)
      | succ i => exact low_above hs c.key _ y (by omega) hi

theorem applyL_rising : ∀ (m l : List Chg), Rising l → Rising (applyL l m)
  | [], _, h => h
  | c :: m, l, h => applyL_rising m (put1 l c) (put1_rising h c)
theorem applyL_length : ∀ (m l : List Chg), (applyL l m).length ≤ l.length + m.length
  | [], l => by simp [applyL]
  | c :: m, l => by
    have := applyL_length m (put1 l c)
    have := put1_length l c
    simp only [applyL, List.foldl_cons, List.length_cons] at *
    omega

end Go.Proofs.Ytkapmpngglibjaa
