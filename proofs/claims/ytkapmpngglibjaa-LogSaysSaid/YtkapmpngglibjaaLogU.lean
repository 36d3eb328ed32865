/- What is read of a log behind a deed that was added, or was being added: plain. No condition beyond each law's own. -/
import Derived.Test.YtkapmpngglibjaaLogT
namespace Go.Proofs.Ytkapmpngglibjaa
open Go Go.RowKit

/-! ### what is read of a log behind that -/

def secsL (S : List ByteArray) (fr many : Nat) : List ByteArray := (S.drop fr).take many
theorem secs_eq (D : DM) (fr many : Nat) : secs D fr many = secsL D.now fr many := rfl

theorem secsL_get (S : List ByteArray) (fr many j : Nat) (h : j < many) : (secsL S fr many)[j]? = S[fr + j]? := by
  rw [secsL, List.getElem?_take_of_lt h, List.getElem?_drop]

theorem secsL_length (S : List ByteArray) (fr many : Nat) (h : fr + many ≤ S.length) : (secsL S fr many).length = many := by
  rw [secsL, List.length_take, List.length_drop]
  omega

theorem secsL_take {S S' : List ByteArray} {fr many next : Nat} (hn : next ≤ many) (h : ∀ k, k < fr + next → S'[k]? = S[k]?) : (secsL S' fr many).take next = (secsL S fr many).take next := by
  apply List.ext_getElem?
  intro j
  rw [List.getElem?_take, List.getElem?_take]
  split
  · rename_i hj
    rw [secsL_get _ _ _ _ (by omega), secsL_get _ _ _ _ (by omega)]
    exact h _ (by omega)
  · rfl

/-- No sector from 'next' on closes a deed. -/
def NoC (L : LM) (S : List ByteArray) : Prop := ∀ (j : Nat) (s : ByteArray), L.next ≤ j → j < L.many → S[L.from_ + j]? = some s → ¬ closedS s (L.first + j)

/-- What is true of a log on these sectors: it has these deeds. -/
structure LogOf (L : LM) (S : List ByteArray) (ds : List (List Chg)) : Prop where
  fits : L.from_ + L.many ≤ S.length
  first : 1 ≤ L.first
  small : L.first + L.many < 2147483648
  scn : scan L.first 0 (secsL S L.from_ L.many) [] [] 0 = (ds, L.next)

theorem LogOf.next_le {L : LM} {S : List ByteArray} {ds : List (List Chg)} (h : LogOf L S ds) : L.next ≤ L.many := by
  have := scan_next_le h.scn
  rwa [secsL_length _ _ _ h.fits] at this

theorem look_open {L : LM} (j : Nat) (c : Chg) : lookOf (opT L j c) (L.first + (L.next + j)) = (111, bytesOf c, true) := by
  have := bytesOf_size c
  rw [opT, show L.first + L.next + j = L.first + (L.next + j) by omega]
  exact look_text 111 _ _ (.inl rfl) (by omega)

theorem look_close {L : LM} (n : Nat) : lookOf (clT L n) (L.first + (L.next + n)) = (99, fourB n, true) :=
  look_text 99 _ _ (.inr rfl) (by decide : 4 ≤ 133)

/-- A whole deed more. -/
theorem Full.log {L : LM} {l : List Chg} {S S' : List ByteArray} {ds : List (List Chg)} (h : Full L l S S') (hL : LogOf L S ds) (hf : ∀ c ∈ l, faultOf c = 0) (h2 : L.next + l.length + 1 ≤ L.many) :
    LogOf { L with next := L.next + l.length + 1 } S' (ds ++ [l]) := by
  refine ⟨by rw [h.len]; exact hL.fits, hL.first, hL.small, ?_⟩
  rw [scan_take hL.scn (secsL S' L.from_ L.many) (secsL_take hL.next_le fun k hk => h.old k (.inl hk))]
  have hget : ∀ j, j < L.many → (secsL S' L.from_ L.many)[j]? = S'[L.from_ + j]? := fun j hj => secsL_get _ _ _ _ hj
  refine scan_deed L.first (secsL S' L.from_ L.many) l L.next ds (fun j c hj => ?_) ?_ fun s hs => ?_
  · have hjl := (List.getElem?_eq_some_iff.1 hj).1
    have hfc := hf c (List.mem_of_getElem? hj)
    exact ⟨opT L j c, by rw [hget _ (by omega), ← h.op j c hj]; congr 1; omega, look_open j c, hfc⟩
  · exact ⟨clT L l.length, by rw [hget _ (by omega), ← h.cl]; congr 1; omega, look_close l.length⟩
  · by_cases hb : L.next + l.length + 1 < L.many
    · rw [hget _ hb] at hs
      have := h.bl hb
      rw [show L.from_ + L.next + l.length + 1 = L.from_ + (L.next + l.length + 1) by omega, hs] at this
      cases this
      exact look_blank _ (by have := hL.first; omega) (by have := hL.small; omega)
    · rw [List.getElem?_eq_none (by rw [secsL_length _ _ _ (by rw [h.len]; exact hL.fits)]; omega)] at hs
      cases hs

theorem Full.noC {L : LM} {l : List Chg} {S S' : List ByteArray} {ds : List (List Chg)} (h : Full L l S S') (hL : LogOf L S ds) (hc : NoC L S) :
    NoC { L with next := L.next + l.length + 1 } S' := by
  intro j s hj hm hs
  simp only at hj hm hs ⊢
  by_cases he : j = L.next + l.length + 1
  · subst he
    have := h.bl hm
    rw [show L.from_ + L.next + l.length + 1 = L.from_ + (L.next + l.length + 1) by omega, hs] at this
    cases this
    intro hc
    have := look_blank (L.first + (L.next + l.length + 1)) (by have := hL.first; omega) (by have := hL.small; omega)
    rw [show blankT = padTo 140 ⟨#[]⟩ from rfl, closedS, this] at hc
    cases hc.1
  · rw [h.old _ (.inr (.inl (by omega)))] at hs
    exact hc j s (by omega) hm hs

/-- Half of a deed more: no deed. -/
theorem Half.log {L : LM} {l : List Chg} {S S' : List ByteArray} {ds : List (List Chg)} (h : Half L l S S') (hL : LogOf L S ds) (hc : NoC L S) : LogOf L S' ds ∧ NoC L S' := by
  have hfits : L.from_ + L.many ≤ S'.length := by rw [h.len]; exact hL.fits
  have hno : NoC L S' := by
    intro j s hj hm hs
    rcases h.all _ s hs with h1 | ⟨i, c, hi, h1, rfl⟩ | ⟨h0, h1, rfl⟩
    · exact hc j s hj hm h1
    · have hji : j = L.next + i := by omega
      subst hji
      intro hcl
      rw [closedS, look_open i c] at hcl
      exact absurd hcl.2 (show ¬ (111 : Nat) = 99 by decide)
    · intro hcl
      have := look_blank (L.first + j) (by have := hL.first; omega) (by have := hL.small; omega)
      rw [show blankT = padTo 140 ⟨#[]⟩ from rfl, closedS, this] at hcl
      cases hcl.1
  refine ⟨⟨hfits, hL.first, hL.small, ?_⟩, hno⟩
  have hold : ∀ k, k < L.from_ + L.next → S'[k]? = S[k]? := fun k hk => by
    have hlt : k < S'.length := by have := hL.next_le; omega
    rcases h.all k S'[k] (List.getElem?_eq_getElem hlt) with h1 | ⟨i, c, hi, h1, -⟩ | ⟨h0, h1, -⟩
    · rw [h1, List.getElem?_eq_getElem hlt]
    · omega
    · omega
  rw [scan_take hL.scn (secsL S' L.from_ L.many) (secsL_take hL.next_le hold)]
  refine scan_noC L.first _ L.next [] ds L.next fun j s hs => ?_
  rw [List.getElem?_drop] at hs
  have hjm : L.next + j < L.many := by
    have := (List.getElem?_eq_some_iff.1 hs).1
    rwa [secsL_length _ _ _ hfits] at this
  rw [secsL_get _ _ _ _ hjm] at hs
  exact hno (L.next + j) s (by omega) hjm hs

/-- All sectors are whole ones. -/
def AllSz (S : List ByteArray) : Prop := ∀ s ∈ S, s.size = 140
theorem opT_size (L : LM) (j : Nat) (c : Chg) : (opT L j c).size = 140 := padTo_size _ (text_le _ _ _)
theorem clT_size (L : LM) (n : Nat) : (clT L n).size = 140 := padTo_size _ (by rw [textB_size]; exact (by decide : 7 + 4 ≤ 140))
theorem blankT_size : blankT.size = 140 := padTo_size _ (Nat.zero_le _)

theorem Half.sz {L : LM} {l : List Chg} {S S' : List ByteArray} (h : Half L l S S') (hS : AllSz S) : AllSz S' := by
  intro s hs
  obtain ⟨k, hk⟩ := List.getElem?_of_mem hs
  rcases h.all k s hk with h1 | ⟨j, c, -, -, rfl⟩ | ⟨-, -, rfl⟩
  · exact hS s (List.mem_of_getElem? h1)
  · exact opT_size _ _ _
  · exact blankT_size

theorem Full.sz {L : LM} {l : List Chg} {S S' : List ByteArray} (h : Full L l S S') (hS : AllSz S) : AllSz S' := by
  intro s hs
  obtain ⟨k, hk⟩ := List.getElem?_of_mem hs
  by_cases h1 : L.from_ + L.next ≤ k ∧ k < L.from_ + L.next + l.length
  · obtain ⟨c, hc⟩ : ∃ c, l[k - (L.from_ + L.next)]? = some c := ⟨_, List.getElem?_eq_getElem (by omega)⟩
    have := h.op _ c hc
    rw [show L.from_ + L.next + (k - (L.from_ + L.next)) = k by omega, hk] at this
    cases this
    exact opT_size _ _ _
  · by_cases h2 : k = L.from_ + L.next + l.length
    · subst h2
      rw [h.cl] at hk
      cases hk
      exact clT_size _ _
    · by_cases h3 : k = L.from_ + L.next + l.length + 1 ∧ L.next + l.length + 1 < L.many
      · obtain ⟨rfl, h3⟩ := h3
        rw [h.bl h3] at hk
        cases hk
        exact blankT_size
      · rw [h.old k (by omega)] at hk
        exact hS s (List.mem_of_getElem? hk)

end Go.Proofs.Ytkapmpngglibjaa
