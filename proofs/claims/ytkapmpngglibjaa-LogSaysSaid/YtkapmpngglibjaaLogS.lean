/- The steps of a disk under a log: plain. No condition beyond each law's own. -/
import Derived.Test.YtkapmpngglibjaaLogQ
namespace Go.Proofs.Ytkapmpngglibjaa
open Go Go.RowKit

/-! ### steps of a disk -/

theorem padTo_size (s : ByteArray) (h : s.size ≤ 140) : (padTo 140 s).size = 140 := by
  rw [size_list, padTo_list, List.length_append, List.length_replicate, ← size_list]
  omega

/-- Not down, and not armed. -/
def DM.Ready (D : DM) : Prop := D.down = false ∧ D.fuse = -1

theorem step_cases (D : DM) : (D.step.1 = true ∧ D.step.2.down = false) ∨ D.step.1 = false := by
  unfold DM.step
  split
  · exact .inr rfl
  · rename_i h
    split
    · exact .inr rfl
    · exact .inl ⟨rfl, by simpa using h⟩

theorem step_up {D : DM} (h : D.Ready) : D.step.1 = true ∧ D.step.2.Ready := by
  obtain ⟨h1, h2⟩ := h
  unfold DM.step
  rw [h1, h2]
  exact ⟨rfl, rfl, rfl⟩

theorem write_cases (D : DM) (p : Nat) (s : ByteArray) (hp : p < D.now.length) (hs : s.size ≤ 140) :
    ((D.write p s).1 = 0 ∧ (D.write p s).2.kept = D.kept ∧ (D.write p s).2.now = D.now.set p (padTo 140 s) ∧ (D.write p s).2.wait = D.wait ++ [(p, padTo 140 s)] ∧ (D.write p s).2.down = false) ∨
    ((D.write p s).1 = 10 ∧ (D.write p s).2.kept = D.kept ∧ (D.write p s).2.now = D.now ∧ (D.write p s).2.wait = D.wait) := by
  have e : D.write p s = if D.step.1 then (0, D.step.2.put p s) else (10, D.step.2) := by
    unfold DM.write
    rw [if_neg (by omega)]
    simp
  obtain ⟨h1, h2, h3⟩ := D.step_now
  rcases step_cases D with ⟨h, hd⟩ | h
  · left
    rw [e, if_pos h]
    exact ⟨rfl, h3, by simp [DM.put, h1], by simp [DM.put, h2], hd⟩
  · right
    rw [e, h]
    exact ⟨rfl, h3, h1, h2⟩

theorem write_up {D : DM} (h : D.Ready) (p : Nat) (s : ByteArray) (hp : p < D.now.length) (hs : s.size ≤ 140) : (D.write p s).1 = 0 ∧ (D.write p s).2.Ready := by
  have e : D.write p s = if D.step.1 then (0, D.step.2.put p s) else (10, D.step.2) := by
    unfold DM.write
    rw [if_neg (by omega)]
    simp
  obtain ⟨h1, h2⟩ := step_up h
  rw [e, if_pos h1]
  exact ⟨rfl, h2.1, h2.2⟩

theorem flush_cases (D : DM) : (D.flush.1 = 0 ∧ D.flush.2.kept = D.now ∧ D.flush.2.now = D.now ∧ D.flush.2.wait = [] ∧ D.flush.2.down = false) ∨
    (D.flush.1 = 10 ∧ D.flush.2.kept = D.kept ∧ D.flush.2.now = D.now ∧ D.flush.2.wait = D.wait) := by
  obtain ⟨h1, h2, h3⟩ := D.step_now
  unfold DM.flush
  rcases step_cases D with ⟨h, hd⟩ | h
  · left
    rw [if_pos h]
    exact ⟨rfl, h1, h1, rfl, hd⟩
  · right
    rw [h]
    exact ⟨rfl, h3, h1, h2⟩

theorem flush_up {D : DM} (h : D.Ready) : D.flush.1 = 0 ∧ D.flush.2.Ready := by
  obtain ⟨h1, h2⟩ := step_up h
  unfold DM.flush
  rw [if_pos h1]
  exact ⟨rfl, h2.1, h2.2⟩

/-- What holds of all that is kept, and of all that waits, holds of what is there behind a fall. -/
theorem keepFrom_all (R : Nat → ByteArray → Prop) (keep : Nat) : ∀ (ws : List (Nat × ByteArray)) (i : Nat) (l : List ByteArray), (∀ (k : Nat) (s : ByteArray), l[k]? = some s → R k s) → (∀ t ∈ ws, R t.1 t.2) →
    ∀ (k : Nat) (s : ByteArray), (keepFrom keep i ws l)[k]? = some s → R k s
  | [], _, _, h, _, k, s, hs => h k s hs
  | t :: r, i, l, h, hw, k, s, hs => by
    rw [keepFrom] at hs
    refine keepFrom_all R keep r (i + 1) _ ?_ (fun x hx => hw x (List.mem_cons_of_mem _ hx)) k s hs
    intro k' s' hs'
    split at hs'
    · rw [List.getElem?_set] at hs'
      split at hs'
      · rename_i he
        split at hs'
        · cases hs'
          rw [← he]
          exact hw t (List.mem_cons_self ..)
        · cases hs'
      · exact h k' s' hs'
    · exact h k' s' hs'

/-! ### the run of adding a deed -/

def opT (L : LM) (j : Nat) (c : Chg) : ByteArray := padTo 140 (textB 111 (L.first + L.next + j) (bytesOf c))
def clT (L : LM) (n : Nat) : ByteArray := padTo 140 (textB 99 (L.first + (L.next + n)) (fourB n))

theorem text_le (kind n : Nat) (c : Chg) : (textB kind n (bytesOf c)).size ≤ 140 := by
  have := bytesOf_size c
  rw [textB_size]
  omega

theorem layD_run (L : LM) : ∀ (m : List Chg) (i : Nat) (E : DM), L.from_ + L.next + i + m.length ≤ E.now.length →
    ((layD L E i m).1 = 0 ∨ (layD L E i m).1 = 10) ∧ (layD L E i m).2.kept = E.kept ∧ (layD L E i m).2.now.length = E.now.length ∧
    (∃ ws, (layD L E i m).2.wait = E.wait ++ ws ∧ ∀ t ∈ ws, ∃ j c, m[j]? = some c ∧ t.1 = L.from_ + L.next + (i + j) ∧ t.2 = opT L (i + j) c) ∧
    ((layD L E i m).1 = 0 → (∀ (j : Nat) (c : Chg), m[j]? = some c → (layD L E i m).2.now[L.from_ + L.next + (i + j)]? = some (opT L (i + j) c)) ∧
      ∀ k, (k < L.from_ + L.next + i ∨ L.from_ + L.next + i + m.length ≤ k) → (layD L E i m).2.now[k]? = E.now[k]?)
  | [], i, E, _ => by
    unfold layD
    exact ⟨.inl rfl, rfl, rfl, ⟨[], by simp, by simp⟩, fun _ => ⟨by simp, fun _ _ => rfl⟩⟩
  | c :: m, i, E, h => by
    simp only [List.length_cons] at h
    have hp : L.from_ + L.next + i < E.now.length := by omega
    have hw := write_cases E (L.from_ + L.next + i) (textB 111 (L.first + L.next + i) (bytesOf c)) hp (text_le _ _ _)
    unfold layD
    rcases hw with ⟨w0, w1, w2, w3, w4⟩ | ⟨w0, w1, w2, w3⟩
    · rw [if_pos w0]
      have ih := layD_run L m (i + 1) (E.write ((L.from_ + L.next + i : Nat) : Int) (textB 111 (L.first + L.next + i) (bytesOf c))).2 (by rw [w2, List.length_set]; omega)
      generalize E.write ((L.from_ + L.next + i : Nat) : Int) (textB 111 (L.first + L.next + i) (bytesOf c)) = E1 at *
      obtain ⟨i1, i2, i3, ⟨ws, i4, i5⟩, i6⟩ := ih
      refine ⟨i1, i2.trans w1, by rw [i3, w2, List.length_set], ⟨(L.from_ + L.next + i, opT L i c) :: ws, by rw [i4, w3]; simp [opT], ?_⟩, fun h0 => ?_⟩
      · intro t ht
        rcases List.mem_cons.1 ht with rfl | ht
        · exact ⟨0, c, rfl, rfl, rfl⟩
        · obtain ⟨j, c', hj, h1, h2⟩ := i5 t ht
          exact ⟨j + 1, c', by simpa using hj, by rw [h1]; omega, by rw [h2, show i + 1 + j = i + (j + 1) by omega]⟩
      · obtain ⟨g1, g2⟩ := i6 h0
        constructor
        · intro j x hx
          cases j with
          | zero =>
            simp at hx
            subst hx
            rw [g2 _ (.inl (by omega)), w2, Nat.add_zero, List.getElem?_set_self (by omega)]
            rfl
          | succ j =>
            have := g1 j x (by simpa using hx)
            rw [show i + 1 + j = i + (j + 1) by omega] at this
            exact this
        · intro k hk
          simp only [List.length_cons] at hk
          rw [g2 k (by omega), w2, List.getElem?_set_ne (by omega)]
    · rw [if_neg (by omega)]
      refine ⟨.inr w0, w1, by rw [w2], ⟨[], by rw [w3]; simp, by simp⟩, fun h0 => by omega⟩

theorem layD_up (L : LM) : ∀ (m : List Chg) (i : Nat) (E : DM), E.Ready → L.from_ + L.next + i + m.length ≤ E.now.length → (layD L E i m).1 = 0 ∧ (layD L E i m).2.Ready
  | [], i, E, h, _ => ⟨rfl, h⟩
  | c :: m, i, E, h, hl => by
    simp only [List.length_cons] at hl
    obtain ⟨h1, h2⟩ := write_up h (L.from_ + L.next + i) (textB 111 (L.first + L.next + i) (bytesOf c)) (by omega) (text_le _ _ _)
    unfold layD
    rw [if_pos h1]
    exact layD_up L m (i + 1) _ h2 (by rw [DM.wr_len]; omega)

end Go.Proofs.Ytkapmpngglibjaa
