/- Two sorted parts of marks, merged: what the search finds and what the turn and the two merges behind it leave. Plain. Conditions: each law's own premises. -/
import Derived.Test.YtkapmpngglibjaaDoorDE
namespace Go.Proofs.YtkapmpngglibjaaDoor
open Go Go.RowKit

theorem ext_getD {x y : List Int} (hl : x.length = y.length) (h : ∀ k, k < x.length → x.getD k 0 = y.getD k 0) : x = y := by
  apply List.ext_getElem? fun k => ?_
  by_cases hk : k < x.length
  · rw [getD_at hk, getD_at (hl ▸ hk), h k hk]
  · rw [List.getElem?_eq_none (by omega), List.getElem?_eq_none (by omega)]

theorem part_get (d : List Int) (s n k : Nat) (h : k < n) : ((d.drop s).take n).getD k 0 = d.getD (s + k) 0 := by
  rw [List.getD_eq_getElem?_getD, List.getElem?_take_of_lt h, List.getElem?_drop, ← List.getD_eq_getElem?_getD]
theorem left_get (x y : List Int) (k : Nat) (h : k < x.length) : (x ++ y).getD k 0 = x.getD k 0 := by
  rw [List.getD_eq_getElem?_getD, List.getElem?_append_left h, ← List.getD_eq_getElem?_getD]
theorem right_get (x y : List Int) (k : Nat) (h : x.length ≤ k) : (x ++ y).getD k 0 = y.getD (k - x.length) 0 := by
  rw [List.getD_eq_getElem?_getD, List.getElem?_append_right h, ← List.getD_eq_getElem?_getD]
theorem part_len (d : List Int) (s n : Nat) (h : s + n ≤ d.length) : ((d.drop s).take n).length = n := by rw [List.length_take, List.length_drop]; omega

theorem cut4 (d : List Int) (s m e : Nat) (h1 : s ≤ m) (h2 : m ≤ e) : d = (d.drop 0).take s ++ ((d.drop s).take (m - s) ++ ((d.drop m).take (e - m) ++ d.drop e)) := by
  have e1 : d.drop m = (d.drop m).take (e - m) ++ d.drop e := by
    conv => lhs; rw [← List.take_append_drop (e - m) (d.drop m)]
    rw [List.drop_drop, show m + (e - m) = e by omega]
  rw [← e1]
  have e2 : d.drop s = (d.drop s).take (m - s) ++ d.drop m := by
    conv => lhs; rw [← List.take_append_drop (m - s) (d.drop s)]
    rw [List.drop_drop, show s + (m - s) = m by omega]
  rw [← e2]
  simp

theorem rot_list (d d' : List Int) (s m e : Nat) (h1 : s ≤ m) (h2 : m ≤ e) (h3 : e ≤ d.length) (hl : d'.length = d.length) (h : ∀ k, d'.getD k 0 = rotF (fun q => d.getD q 0) s m e k) :
    d' = (d.drop 0).take s ++ ((d.drop m).take (e - m) ++ ((d.drop s).take (m - s) ++ d.drop e)) := by
  have l1 := part_len d 0 s (by omega)
  have l2 := part_len d m (e - m) (by omega)
  have l3 := part_len d s (m - s) (by omega)
  refine ext_getD (by rw [hl]; simp only [List.length_append, l1, l2, l3, List.length_drop]; omega) fun k hk => ?_
  rw [h]
  unfold rotF
  by_cases k1 : k < s
  · rw [if_neg (by omega), if_neg (by omega), left_get _ _ _ (by omega), part_get _ _ _ _ k1, Nat.zero_add]
  · rw [right_get _ _ _ (by omega), l1]
    by_cases k2 : k < s + (e - m)
    · rw [if_pos (by omega), left_get _ _ _ (by omega), part_get _ _ _ _ (by omega)]
    · rw [if_neg (by omega), right_get _ _ _ (by omega), l2]
      by_cases k3 : k < e
      · rw [if_pos (by omega), left_get _ _ _ (by omega), part_get _ _ _ _ (by omega)]
        congr 1; omega
      · rw [if_neg (by omega), right_get _ _ _ (by omega), l3]
        show d.getD k 0 = _
        rw [List.getD_eq_getElem?_getD, List.getD_eq_getElem?_getD, List.getElem?_drop]
        congr 2; omega

theorem all_z {d : List Int} {s e : Nat} (h : ∀ k, s ≤ k → k < e → zt d k = true) : ((d.drop s).take (e - s)).filter (fun x => !zr x) = [] := by
  rw [List.filter_eq_nil_iff]
  intro x hx
  obtain ⟨k, hk, rfl⟩ := List.mem_iff_getElem.1 hx
  have hk2 : k < e - s := by rw [List.length_take] at hk; omega
  have := h (s + k) (by omega) (by omega)
  unfold zt at this
  rw [← part_get d s (e - s) k hk2, List.getD_eq_getElem?_getD, List.getElem?_eq_getElem hk] at this
  rw [Option.getD_some] at this
  rw [this]
  decide

theorem rot_rel {d d' : List Int} {s m e : Nat} (h1 : s ≤ m) (h2 : m ≤ e) (h3 : e ≤ d.length) (hl : d'.length = d.length) (h : ∀ k, d'.getD k 0 = rotF (fun q => d.getD q 0) s m e k)
    (hy : ∀ k, m ≤ k → k < e → zt d k = true) : Rel s e d d' := by
  have e1 := rot_list d d' s m e h1 h2 h3 hl h
  have e2 := cut4 d s m e h1 h2
  refine ⟨hl, fun k hk => ?_, ?_, fun c hc k k1 k2 => ?_, fun x hx => ?_⟩
  · rw [h k]
    unfold rotF
    rw [if_neg (by omega), if_neg (by omega)]
  · rw [e1]
    conv => rhs; rw [e2]
    simp only [List.filter_append, all_z hy, List.nil_append]
  · unfold zt
    rw [h k]
    unfold rotF
    split
    · exact hc _ (by omega) (by omega)
    · split
      · exact hc _ (by omega) (by omega)
      · exact hc _ k1 k2
  · rw [e1] at hx
    rw [e2]
    simp only [List.mem_append] at hx ⊢
    rcases hx with h | h | h | h
    · exact .inl h
    · exact .inr (.inr (.inl h))
    · exact .inr (.inl h)
    · exact .inr (.inr (.inr h))

theorem rotF_zt {d d' : List Int} {s m e : Nat} (h : ∀ k, d'.getD k 0 = rotF (fun q => d.getD q 0) s m e k) (k : Nat) : zt d' k = if s ≤ k ∧ k < s + (e - m) then zt d (m + (k - s)) else if s + (e - m) ≤ k ∧ k < e then zt d (k - (e - m)) else zt d k := by
  unfold zt
  rw [h k]
  unfold rotF
  repeat' split
  all_goals rfl

/-- What the search for the turn's start knows. -/
structure Found (a m b half s r : Nat) (d : List Int) : Prop where
  srtL : Srt a m d
  srtR : Srt m b d
  am : a < m
  mb : m < b
  hf : half = (a + b) / 2
  low : (if half < m then half + m - b else a) ≤ s
  sr : s ≤ r
  high : r ≤ (if half < m then half else m)
  below : (if half < m then half + m - b else a) < s → zt d (half + m - s) = true → zt d (s - 1) = true
  above : r < (if half < m then half else m) → zt d (half + m - 1 - r) = true ∧ zt d r = false

theorem Found.bounds {a m b half s r : Nat} {d : List Int} (h : Found a m b half s r d) : a ≤ s ∧ r ≤ m ∧ r ≤ half ∧ half + m - s ≤ b ∧ half + m ≤ s + b ∧ a < half ∧ half < b := by
  obtain ⟨-, -, h1, h2, h3, h4, h5, h6, -, -⟩ := h
  split at h4 <;> split at h6 <;> omega

theorem Found.up {a m b half s r : Nat} {d : List Int} (h : Found a m b half s r d) (hlt : s < r) (hc : zt d (half + m - 1 - (s + r) / 2) = true → zt d ((s + r) / 2) = true) : Found a m b half ((s + r) / 2 + 1) r d := by
  have hb := h.bounds
  refine ⟨h.srtL, h.srtR, h.am, h.mb, h.hf, by have := h.low; omega, by omega, h.high, fun _ hz => ?_, h.above⟩
  rw [show half + m - ((s + r) / 2 + 1) = half + m - 1 - (s + r) / 2 by omega] at hz
  exact hc hz
theorem Found.down {a m b half s r : Nat} {d : List Int} (h : Found a m b half s r d) (hlt : s < r) (hc : zt d (half + m - 1 - (s + r) / 2) = true ∧ zt d ((s + r) / 2) = false) : Found a m b half s ((s + r) / 2) d :=
  ⟨h.srtL, h.srtR, h.am, h.mb, h.hf, h.low, by omega, by have := h.high; omega, h.below, fun _ => hc⟩

theorem Srt.below {a b : Nat} {d : List Int} (h : Srt a b d) {i j : Nat} (hi : a ≤ i) (hij : i ≤ j) (hj : j < b) (hz : zt d j = true) : zt d i = true := by
  rcases Nat.lt_or_eq_of_le hij with hl | rfl
  · exact h i j hi hl hj hz
  · exact hz
theorem Srt.above {a b : Nat} {d : List Int} (h : Srt a b d) {i j : Nat} (hi : a ≤ i) (hij : i ≤ j) (hj : j < b) (hz : zt d i = false) : zt d j = false := by
  rcases hj' : zt d j with _ | _
  · rfl
  · rw [h.below hi hij hj hj'] at hz; cases hz
theorem Srt.sub {a b a' b' : Nat} {d : List Int} (h : Srt a b d) (ha : a ≤ a') (hb : b' ≤ b) : Srt a' b' d := fun i j h1 h2 h3 => h i j (by omega) h2 (by omega)
theorem Srt.const {a b : Nat} {d : List Int} (h : ∀ i j, a ≤ i → i < j → j < b → zt d i = zt d j) : Srt a b d := fun i j h1 h2 h3 hz => by rw [h i j h1 h2 h3]; exact hz
theorem Srt.rel {a b a' b' : Nat} {d d' : List Int} (h : Srt a b d) (hr : Rel a' b' d d') (hd : b ≤ a' ∨ b' ≤ a) : Srt a b d' := fun i j h1 h2 h3 hz => by
  rw [hr.zout (by omega)] at hz ⊢
  exact h i j h1 h2 h3 hz

/-- With the search at its end. -/
theorem Found.left {a m b half s : Nat} {d : List Int} (h : Found a m b half s s d) (h1 : s < m) (h2 : m < half + m - s) : (∀ k, s ≤ k → k < m → zt d k = false) ∧ (∀ k, m ≤ k → k < half + m - s → zt d k = true) := by
  have hb := h.bounds
  have hs : s < (if half < m then half else m) := by split <;> omega
  obtain ⟨g1, g2⟩ := h.above hs
  exact ⟨fun k k1 k2 => h.srtL.above hb.1 k1 k2 g2, fun k k1 k2 => h.srtR.below k1 (show k ≤ half + m - 1 - s by omega) (by omega) g1⟩

theorem Found.meet {a m b half s : Nat} {d : List Int} (h : Found a m b half s s d) {i j : Nat} (hi : a ≤ i ∧ i < s ∨ m ≤ i ∧ i < half + m - s) (hj : s ≤ j ∧ j < m ∨ half + m - s ≤ j ∧ j < b) (hz : zt d i = false) : zt d j = false := by
  have hb := h.bounds
  have hlow := h.low
  have ham := h.am
  have hmb := h.mb
  rcases hi with ⟨i1, i2⟩ | ⟨i1, i2⟩
  · rcases hj with ⟨j1, j2⟩ | ⟨j1, j2⟩
    · exact h.srtL.above i1 (by omega) j2 hz
    · have hs : zt d (s - 1) = false := h.srtL.above i1 (by omega) (by omega) hz
      by_cases hl : (if half < m then half + m - b else a) < s
      · rcases he : zt d (half + m - s) with _ | _
        · exact h.srtR.above (by omega) j1 j2 he
        · rw [h.below hl he] at hs; cases hs
      · exfalso
        split at hl <;> omega
  · rcases hj with ⟨j1, j2⟩ | ⟨j1, j2⟩
    · have := (h.left (by omega) (by omega)).2 i i1 i2
      rw [this] at hz; cases hz
    · exact h.srtR.above i1 (by omega) j2 hz

/-- The two halves, each of them two sorted parts. -/
structure Ready (a b half s e : Nat) (d : List Int) : Prop where
  s1 : Srt a s d
  s2 : Srt s half d
  s3 : Srt half e d
  s4 : Srt e b d
  meet : ∀ i j, a ≤ i → i < half → half ≤ j → j < b → zt d i = false → zt d j = false

theorem Found.turn {a m b half s : Nat} {d d' : List Int} (h : Found a m b half s s d) (hb : b ≤ d.length) (hl : d'.length = d.length) (hr : ∀ k, d'.getD k 0 = rotF (fun q => d.getD q 0) s m (half + m - s) k) (h1 : s < m) (h2 : m < half + m - s) :
    Rel a b d d' ∧ Ready a b half s (half + m - s) d' := by
  have hbd := h.bounds
  have hle := h.left h1 h2
  have hz := rotF_zt hr
  rw [show s + (half + m - s - m) = half by omega] at hz
  refine ⟨(rot_rel (by omega) (by omega) (by omega) hl hr hle.2).wide (by omega) (by omega), ?_, ?_, ?_, ?_, ?_⟩
  · intro i j g1 g2 g3 g4
    rw [hz, if_neg (by omega), if_neg (by omega)] at g4 ⊢
    exact h.srtL i j g1 g2 (by omega) g4
  · intro i j g1 g2 g3 g4
    rw [hz, if_pos (by omega)]
    exact hle.2 _ (by omega) (by omega)
  · intro i j g1 g2 g3 g4
    rw [hz, if_neg (by omega), if_pos (by omega), hle.1 _ (by omega) (by omega)] at g4
    cases g4
  · intro i j g1 g2 g3 g4
    rw [hz, if_neg (by omega), if_neg (by omega)] at g4 ⊢
    exact h.srtR i j (by omega) g2 g3 g4
  · intro i j i1 i2 j1 j2 g
    rw [hz] at g ⊢
    by_cases j3 : j < half + m - s
    · rw [if_neg (by omega), if_pos (by omega)]
      exact hle.1 _ (by omega) (by omega)
    · rw [if_neg (by omega), if_neg (by omega)]
      by_cases i3 : s ≤ i
      · rw [if_pos (by omega)] at g
        exact h.meet (.inr ⟨by omega, by omega⟩) (.inr ⟨by omega, j2⟩) g
      · rw [if_neg (by omega), if_neg (by omega)] at g
        exact h.meet (.inl ⟨i1, by omega⟩) (.inr ⟨by omega, j2⟩) g

theorem Found.still {a m b half s : Nat} {d : List Int} (h : Found a m b half s s d) (h1 : ¬ (s < m ∧ m < half + m - s)) : Ready a b half s (half + m - s) d := by
  have hbd := h.bounds
  have hmb := h.mb
  have ham := h.am
  by_cases hs : s < m
  · have hsh : s = half := by omega
    subst hsh
    rw [show s + m - s = m by omega]
    refine ⟨h.srtL.sub (Nat.le_refl _) (by omega), fun i j g1 g2 g3 => by omega, h.srtL.sub (by omega) (Nat.le_refl _), h.srtR, fun i j i1 i2 j1 j2 g => ?_⟩
    by_cases j3 : j < m
    · exact h.meet (.inl ⟨i1, i2⟩) (.inl ⟨j1, j3⟩) g
    · exact h.meet (.inl ⟨i1, i2⟩) (.inr ⟨by omega, j2⟩) g
  · have hsm : s = m := by omega
    subst hsm
    rw [show half + s - s = half by omega]
    refine ⟨h.srtL, h.srtR.sub (Nat.le_refl _) (by omega), fun i j g1 g2 g3 => by omega, h.srtR.sub (by omega) (Nat.le_refl _), fun i j i1 i2 j1 j2 g => ?_⟩
    by_cases i3 : i < s
    · exact h.meet (.inl ⟨i1, i3⟩) (.inr ⟨by omega, j2⟩) g
    · exact h.meet (.inr ⟨by omega, by omega⟩) (.inr ⟨by omega, j2⟩) g

/-- Either all on the left is of the lower class, or none on the right. -/
theorem Ready.sides {a b half s e : Nat} {d : List Int} (h : Ready a b half s e d) : (∀ k, a ≤ k → k < half → zt d k = true) ∨ (∀ k, half ≤ k → k < b → zt d k = false) := by
  by_cases hx : ∃ i, (a ≤ i ∧ i < half) ∧ zt d i = false
  · obtain ⟨i, ⟨i1, i2⟩, i3⟩ := hx
    exact .inr fun k k1 k2 => h.meet i k i1 i2 k1 k2 i3
  · refine .inl fun k k1 k2 => ?_
    rcases hz : zt d k with _ | _
    · exact absurd ⟨k, ⟨k1, k2⟩, hz⟩ hx
    · rfl

theorem Ready.done {a b half s e : Nat} {d d2 d3 : List Int} (h : Ready a b half s e d) (r2 : Rel a half d d2) (s2 : Srt a half d2) (r3 : Rel half b d2 d3) (s3 : Srt half b d3) : Srt a b d3 := by
  have sL : Srt a half d3 := s2.rel r3 (.inl (Nat.le_refl _))
  intro i j h1 h2 h3 hz
  by_cases hj : j < half
  · exact sL i j h1 h2 hj hz
  · by_cases hi : i < half
    · rcases h.sides with hs | hs
      · rw [r3.zout (.inl hi)]
        exact r2.con true hs i h1 hi
      · have := r3.con false (fun k k1 k2 => by rw [r2.zout (.inr k1)]; exact hs k k1 k2) j (by omega) h3
        rw [this] at hz; cases hz
    · exact s3 i j (by omega) h2 h3 hz

/-- One mark on the left: where it goes. -/
structure OneL (a b i j : Nat) (d : List Int) : Prop where
  srt : Srt (a + 1) b d
  lo : a + 1 ≤ i
  ij : i ≤ j
  hi : j ≤ b
  below : ∀ k, a + 1 ≤ k → k < i → zt d k = true ∧ zt d a = false
  above : ∀ k, j ≤ k → k < b → zt d k = true → zt d a = true

theorem OneL.up {a b i j : Nat} {d : List Int} (h : OneL a b i j d) (hij : i < j) (hz : zt d ((i + j) / 2) = true ∧ zt d a = false) : OneL a b ((i + j) / 2 + 1) j d := by
  have := h.lo
  have := h.hi
  exact ⟨h.srt, by omega, by omega, h.hi, fun k k1 k2 => ⟨h.srt.below k1 (show k ≤ (i + j) / 2 by omega) (by omega) hz.1, hz.2⟩, h.above⟩
theorem OneL.down {a b i j : Nat} {d : List Int} (h : OneL a b i j d) (hij : i < j) (hz : zt d ((i + j) / 2) = true → zt d a = true) : OneL a b i ((i + j) / 2) d := by
  have := h.lo
  have := h.hi
  exact ⟨h.srt, h.lo, by omega, by omega, h.below, fun k k1 k2 g => hz (h.srt.below (by omega) k1 k2 g)⟩

/-- The one on the left, carried as far as k. -/
structure CarL (a b i k : Nat) (d dk : List Int) : Prop where
  one : OneL a b i i d
  ak : a ≤ k
  ki : k < i
  rel : Rel a b d dk
  zt : ∀ q, zt dk q = if q = k then zt d a else if a ≤ q ∧ q < k then zt d (q + 1) else zt d q

theorem CarL.start {a b i : Nat} {d : List Int} (h : OneL a b i i d) : CarL a b i a d d := by
  have := h.lo
  refine ⟨h, Nat.le_refl _, by omega, Rel.refl _ _ _, fun q => ?_⟩
  by_cases hq : q = a
  · subst hq; rw [if_pos rfl]
  · rw [if_neg hq, if_neg (by omega)]
theorem CarL.marks {a b i k : Nat} {d dk : List Int} (h : CarL a b i k d dk) (hk : k + 1 < i) : Go.Proofs.YtkapmpngglibjaaDoor.zt dk (k + 1) = true ∧ Go.Proofs.YtkapmpngglibjaaDoor.zt dk k = false := by
  have hz := h.zt
  have hlo := h.one.below (k + 1) (by have := h.ak; omega) hk
  refine ⟨?_, ?_⟩
  · rw [hz, if_neg (by omega), if_neg (by omega)]
    exact hlo.1
  · rw [hz, if_pos rfl]
    exact hlo.2
theorem CarL.step {a b i k : Nat} {d dk : List Int} (h : CarL a b i k d dk) (hb : b ≤ d.length) (hk : k + 1 < i) : CarL a b i (k + 1) d (swp dk (k + 1) k) := by
  have hm := h.marks hk
  have hak := h.ak
  have hib := h.one.hi
  have hz := h.zt
  have hl := h.rel.len
  refine ⟨h.one, by omega, hk, h.rel.trans (Rel.swap (by omega) hak (by omega) hm.1 hm.2), fun q => ?_⟩
  rw [zt_swp _ _ _ (by omega)]
  by_cases q1 : q = k
  · subst q1
    rw [if_pos rfl, if_neg (by omega), if_pos (by omega), hz, if_neg (by omega), if_neg (by omega)]
  · rw [if_neg q1]
    by_cases q2 : q = k + 1
    · subst q2
      rw [if_pos rfl, if_pos rfl, hz, if_pos rfl]
    · rw [if_neg q2, if_neg q2, hz, if_neg q1]
      by_cases q3 : a ≤ q ∧ q < k
      · rw [if_pos q3, if_pos (by omega)]
      · rw [if_neg q3, if_neg (by omega)]
theorem CarL.done {a b i k : Nat} {d dk : List Int} (h : CarL a b i k d dk) (hk : ¬ k + 1 < i) : Srt a b dk := by
  have hki := h.ki
  have hz := h.zt
  have hak := h.ak
  obtain rfl : i = k + 1 := by omega
  intro p q h1 h2 h3 h4
  rw [hz] at h4 ⊢
  by_cases q1 : q = k
  · rw [if_neg (by omega), if_pos (by omega)]
    exact (h.one.below _ (by omega) (by omega)).1
  · rw [if_neg q1] at h4
    by_cases q2 : q < k
    · rw [if_neg (by omega), if_pos (by omega)]
      exact (h.one.below _ (by omega) (by omega)).1
    · rw [if_neg (by omega)] at h4
      by_cases p1 : p = k
      · rw [if_pos p1]
        exact h.one.above q (by omega) h3 h4
      · rw [if_neg p1]
        by_cases p2 : p < k
        · rw [if_pos (by omega)]
          exact (h.one.below _ (by omega) (by omega)).1
        · rw [if_neg (by omega)]
          exact h.one.srt p q (by omega) h2 h3 h4

/-- One mark on the right: where it goes. -/
structure OneR (a m i j : Nat) (d : List Int) : Prop where
  srt : Srt a m d
  lo : a ≤ i
  ij : i ≤ j
  hi : j ≤ m
  below : ∀ k, a ≤ k → k < i → zt d m = true → zt d k = true
  above : ∀ k, j ≤ k → k < m → zt d m = true ∧ zt d k = false

theorem OneR.up {a m i j : Nat} {d : List Int} (h : OneR a m i j d) (hij : i < j) (hz : zt d m = true → zt d ((i + j) / 2) = true) : OneR a m ((i + j) / 2 + 1) j d := by
  have := h.lo
  have := h.hi
  exact ⟨h.srt, by omega, by omega, h.hi, fun k k1 k2 g => h.srt.below k1 (show k ≤ (i + j) / 2 by omega) (by omega) (hz g), h.above⟩
theorem OneR.down {a m i j : Nat} {d : List Int} (h : OneR a m i j d) (hij : i < j) (hz : zt d m = true ∧ zt d ((i + j) / 2) = false) : OneR a m i ((i + j) / 2) d := by
  have := h.lo
  have := h.hi
  exact ⟨h.srt, h.lo, by omega, by omega, h.below, fun k k1 k2 => ⟨hz.1, h.srt.above (by omega) k1 k2 hz.2⟩⟩

structure CarR (a m i k : Nat) (d dk : List Int) : Prop where
  one : OneR a m i i d
  ik : i ≤ k
  km : k ≤ m
  rel : Rel a (m + 1) d dk
  zt : ∀ q, zt dk q = if q = k then zt d m else if k < q ∧ q ≤ m then zt d (q - 1) else zt d q

theorem CarR.start {a m i : Nat} {d : List Int} (h : OneR a m i i d) : CarR a m i m d d := by
  have := h.hi
  refine ⟨h, by omega, Nat.le_refl _, Rel.refl _ _ _, fun q => ?_⟩
  by_cases hq : q = m
  · subst hq; rw [if_pos rfl]
  · rw [if_neg hq, if_neg (by omega)]
theorem CarR.marks {a m i k : Nat} {d dk : List Int} (h : CarR a m i (k + 1) d dk) (hk : i ≤ k) : Go.Proofs.YtkapmpngglibjaaDoor.zt dk (k + 1) = true ∧ Go.Proofs.YtkapmpngglibjaaDoor.zt dk k = false := by
  have hz := h.zt
  have hlo := h.one.above k hk (by have := h.km; omega)
  refine ⟨?_, ?_⟩
  · rw [hz, if_pos rfl]
    exact hlo.1
  · rw [hz, if_neg (by omega), if_neg (by omega)]
    exact hlo.2
theorem CarR.step {a m i k : Nat} {d dk : List Int} (h : CarR a m i (k + 1) d dk) (hb : m < d.length) (hk : i ≤ k) : CarR a m i k d (swp dk (k + 1) k) := by
  have hm := h.marks hk
  have hkm := h.km
  have hai := h.one.lo
  have hz := h.zt
  have hl := h.rel.len
  refine ⟨h.one, hk, by omega, h.rel.trans (Rel.swap (by omega) (by omega) (by omega) hm.1 hm.2), fun q => ?_⟩
  rw [zt_swp _ _ _ (by omega)]
  by_cases q1 : q = k
  · subst q1
    rw [if_pos rfl, if_pos rfl, hz, if_pos rfl]
  · rw [if_neg q1, if_neg q1]
    by_cases q2 : q = k + 1
    · subst q2
      rw [if_pos rfl, if_pos (by omega), hz, if_neg (by omega), if_neg (by omega)]
      rfl
    · rw [if_neg q2, hz, if_neg q2]
      by_cases q3 : k + 1 < q ∧ q ≤ m
      · rw [if_pos q3, if_pos (by omega)]
      · rw [if_neg q3, if_neg (by omega)]
theorem CarR.done {a m i k : Nat} {d dk : List Int} (h : CarR a m i k d dk) (hk : ¬ i < k) : Srt a (m + 1) dk := by
  have hki := h.ik
  have hz := h.zt
  have hkm := h.km
  obtain rfl : i = k := by omega
  intro p q h1 h2 h3 h4
  rw [hz] at h4 ⊢
  by_cases q1 : q = i
  · subst q1
    rw [if_pos rfl] at h4
    rw [if_neg (by omega), if_neg (by omega)]
    exact h.one.below p h1 h2 h4
  · rw [if_neg q1] at h4
    by_cases q2 : i < q
    · rw [if_pos (by omega), (h.one.above (q - 1) (by omega) (by omega)).2] at h4
      cases h4
    · rw [if_neg (by omega)] at h4
      rw [if_neg (by omega), if_neg (by omega)]
      exact h.one.srt p q h1 h2 (by omega) h4

end Go.Proofs.YtkapmpngglibjaaDoor
