/- What a scan of a log hangs on: plain. No condition beyond each law's own. -/
import Derived.Test.YtkapmpngglibjaaLogP
namespace Go.Proofs.Ytkapmpngglibjaa
open Go Go.RowKit

/-! ### what a scan hangs on -/

/-- A sector that closes a deed. -/
def closedS (s : ByteArray) (n : Nat) : Prop := (lookOf s n).2.2 = true ∧ (lookOf s n).1 = 99

theorem scan_noC (first : Nat) : ∀ (S : List ByteArray) (i : Nat) (deed : List Chg) (out : List (List Chg)) (nx : Nat), (∀ (j : Nat) (s : ByteArray), S[j]? = some s → ¬ closedS s (first + (i + j))) → scan first i S deed out nx = (out, nx)
  | [], i, deed, out, nx, _ => rfl
  | s :: l, i, deed, out, nx, h => by
    have h0 := h 0 s rfl
    have ih := fun d => scan_noC first l (i + 1) d out nx (fun j x hx => by have := h (j + 1) x (by simpa using hx); rwa [show i + 1 + j = i + (j + 1) by omega])
    unfold scan
    rw [Nat.add_zero] at h0
    split
    · rename_i hok
      split
      · rename_i h99
        exact absurd ⟨hok, by simpa using h99⟩ h0
      · split
        · exact ih _
        · rfl
    · rfl

theorem scan_split (first : Nat) : ∀ (S : List ByteArray) (i : Nat) (deed : List Chg) (out : List (List Chg)) (nx : Nat) (o : List (List Chg)) (m : Nat), scan first i S deed out nx = (o, m) →
    (o, m) = (out, nx) ∨ (i < m ∧ m - i ≤ S.length ∧ ∀ S' : List ByteArray, S'.take (m - i) = S.take (m - i) → scan first i S' deed out nx = scan first m (S'.drop (m - i)) [] o m)
  | [], i, deed, out, nx, o, m, h => by
    left
    rw [← h]
    rfl
  | s :: l, i, deed, out, nx, o, m, h => by
    have cons : ∀ (S' : List ByteArray) (k : Nat), 0 < k → S'.take k = (s :: l).take k → ∃ l', S' = s :: l' ∧ l'.take (k - 1) = l.take (k - 1) := fun S' k hk he => by
      cases S' with
      | nil =>
        cases k with
        | zero => omega
        | succ k => simp at he
      | cons x l' =>
        cases k with
        | zero => omega
        | succ k =>
          simp only [List.take_succ_cons, List.cons.injEq] at he
          exact ⟨l', by rw [he.1], by simpa using he.2⟩
    unfold scan at h
    split at h
    · rename_i hok
      split at h
      · rename_i h99
        split at h
        · rename_i hlen
          have step : ∀ l', scan first i (s :: l') deed out nx = scan first (i + 1) l' [] (out ++ [deed]) (i + 1) := fun l' => by
            conv => lhs; unfold scan
            rw [if_pos hok, if_pos h99, if_pos hlen]
          right
          rcases scan_split first l (i + 1) [] (out ++ [deed]) (i + 1) o m h with he | ⟨h1, h2, h3⟩
          · obtain ⟨rfl, rfl⟩ := Prod.mk.inj he
            refine ⟨by omega, by simp, fun S' hS => ?_⟩
            obtain ⟨l', rfl, -⟩ := cons S' _ (by omega) hS
            rw [step]
            congr 1
            rw [show i + 1 - i = 1 by omega]
            rfl
          · refine ⟨by omega, by simp only [List.length_cons]; omega, fun S' hS => ?_⟩
            obtain ⟨l', rfl, hl⟩ := cons S' _ (by omega) hS
            rw [step, h3 l' (by rw [show m - (i + 1) = m - i - 1 by omega]; exact hl), show m - i = (m - (i + 1)) + 1 by omega, List.drop_succ_cons]
        · left; rw [← h]
      · rename_i h99
        split at h
        · rename_i hp
          have step : ∀ l', scan first i (s :: l') deed out nx = scan first (i + 1) l' (deed ++ [(parseOf (lookOf s (first + i)).2.1).1]) out nx := fun l' => by
            conv => lhs; unfold scan
            rw [if_pos hok, if_neg h99, if_pos hp]
          rcases scan_split first l (i + 1) _ out nx o m h with he | ⟨h1, h2, h3⟩
          · exact .inl he
          · right
            refine ⟨by omega, by simp only [List.length_cons]; omega, fun S' hS => ?_⟩
            obtain ⟨l', rfl, hl⟩ := cons S' _ (by omega) hS
            rw [step, h3 l' (by rw [show m - (i + 1) = m - i - 1 by omega]; exact hl), show m - i = (m - (i + 1)) + 1 by omega, List.drop_succ_cons]
        · left; rw [← h]
    · left; rw [← h]

/-- The deeds hang on the sectors that they take alone. -/
theorem scan_take {first : Nat} {S : List ByteArray} {ds : List (List Chg)} {next : Nat} (h : scan first 0 S [] [] 0 = (ds, next)) (S' : List ByteArray) (hS : S'.take next = S.take next) :
    scan first 0 S' [] [] 0 = scan first next (S'.drop next) [] ds next := by
  rcases scan_split first S 0 [] [] 0 ds next h with he | ⟨h1, h2, h3⟩
  · obtain ⟨rfl, rfl⟩ := Prod.mk.inj he
    rfl
  · exact h3 S' hS

theorem scan_next_le {first : Nat} {S : List ByteArray} {ds : List (List Chg)} {next : Nat} (h : scan first 0 S [] [] 0 = (ds, next)) : next ≤ S.length := by
  rcases scan_split first S 0 [] [] 0 ds next h with he | ⟨h1, h2, h3⟩
  · obtain ⟨rfl, rfl⟩ := Prod.mk.inj he
    exact Nat.zero_le _
  · omega

/-- Changes that are laid one behind the other. -/
theorem scan_opened (first : Nat) (S : List ByteArray) : ∀ (l : List Chg) (i : Nat) (deed : List Chg) (out : List (List Chg)) (nx : Nat),
    (∀ (j : Nat) (c : Chg), l[j]? = some c → ∃ s, S[i + j]? = some s ∧ lookOf s (first + (i + j)) = (111, bytesOf c, true) ∧ faultOf c = 0) → scan first i (S.drop i) deed out nx = scan first (i + l.length) (S.drop (i + l.length)) (deed ++ l) out nx
  | [], i, deed, out, nx, _ => by simp
  | c :: l, i, deed, out, nx, h => by
    obtain ⟨s, h1, h2, h3⟩ := h 0 c rfl
    rw [Nat.add_zero] at h1 h2
    obtain ⟨hlt, hs⟩ := List.getElem?_eq_some_iff.1 h1
    have ih := scan_opened first S l (i + 1) (deed ++ [c]) out nx (fun j x hx => by
      obtain ⟨s', g1, g2, g3⟩ := h (j + 1) x (by simpa using hx)
      exact ⟨s', by rw [show i + 1 + j = i + (j + 1) by omega]; exact g1, by rw [show i + 1 + j = i + (j + 1) by omega]; exact g2, g3⟩)
    rw [List.drop_eq_getElem_cons hlt, scan, hs, h2]
    simp only [if_true]
    rw [if_neg (by decide), parse_bytes c h3, if_pos rfl, ih, List.length_cons, show i + 1 + l.length = i + (l.length + 1) by omega]
    simp

/-- A whole deed, and behind it none that is written. -/
theorem scan_deed (first : Nat) (S : List ByteArray) (l : List Chg) (i : Nat) (out : List (List Chg)) (hl : ∀ (j : Nat) (c : Chg), l[j]? = some c → ∃ s, S[i + j]? = some s ∧ lookOf s (first + (i + j)) = (111, bytesOf c, true) ∧ faultOf c = 0)
    (hc : ∃ s, S[i + l.length]? = some s ∧ lookOf s (first + (i + l.length)) = (99, fourB l.length, true)) (hb : ∀ s, S[i + l.length + 1]? = some s → (lookOf s (first + (i + l.length + 1))).2.2 = false) :
    scan first i (S.drop i) [] out i = (out ++ [l], i + l.length + 1) := by
  rw [scan_opened first S l i [] out i hl, List.nil_append]
  obtain ⟨s, h1, h2⟩ := hc
  obtain ⟨hlt, hs⟩ := List.getElem?_eq_some_iff.1 h1
  rw [List.drop_eq_getElem_cons hlt, scan, hs, h2]
  simp only [if_true]
  rw [if_pos (by decide), if_pos (by simp)]
  cases hn : S[i + l.length + 1]? with
  | none =>
    rw [List.drop_of_length_le (List.getElem?_eq_none_iff.1 hn)]
    rfl
  | some x =>
    obtain ⟨hlt2, hx⟩ := List.getElem?_eq_some_iff.1 hn
    rw [List.drop_eq_getElem_cons hlt2, scan, hx, hb x hn]
    simp

end Go.Proofs.Ytkapmpngglibjaa
