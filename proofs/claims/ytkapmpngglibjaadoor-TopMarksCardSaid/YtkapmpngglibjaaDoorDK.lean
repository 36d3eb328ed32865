/- A text's runes; signs that are split up. Plain. Conditions: each law's own premises. -/
import Derived.Test.YtkapmpngglibjaaDoorDJ
import Derived.Lib.TrimUEq
import Derived.Lib.OthersKept
import Derived.Laws.Cover4
namespace Go.Proofs.YtkapmpngglibjaaDoor
open Go Go.RowKit Go.Lib

def runesF : Nat → List UInt8 → List Int
  | 0, _ => []
  | n + 1, l => if l = [] then [] else ((decodeL l).1 : Int) :: runesF n (l.drop (decodeL l).2)
def runesL (l : List UInt8) : List Int := runesF l.length l

theorem runesF_fuel : ∀ (n m : Nat) (l : List UInt8), l.length ≤ n → l.length ≤ m → runesF n l = runesF m l
  | 0, m, l, h, _ => by
    have : l = [] := List.eq_nil_of_length_eq_zero (by omega)
    subst this
    cases m <;> rfl
  | n + 1, 0, l, _, h => by
    have : l = [] := List.eq_nil_of_length_eq_zero (by omega)
    subst this
    rfl
  | n + 1, m + 1, l, h1, h2 => by
    unfold runesF
    split
    · rfl
    · have hw := decodeL_width l
      rename_i hne
      have : 0 < l.length := List.length_pos_iff.2 hne
      rw [runesF_fuel n m _ (by rw [List.length_drop]; omega) (by rw [List.length_drop]; omega)]
theorem runesL_nil : runesL [] = [] := rfl
theorem runesL_step (l : List UInt8) (hne : l ≠ []) : runesL l = ((decodeL l).1 : Int) :: runesL (l.drop (decodeL l).2) := by
  have hw := decodeL_width l
  have : 0 < l.length := List.length_pos_iff.2 hne
  unfold runesL
  obtain ⟨n, hn⟩ : ∃ n, l.length = n + 1 := ⟨l.length - 1, by omega⟩
  rw [hn, runesF, if_neg hne, runesF_fuel n _ _ (by rw [List.length_drop]; omega) (Nat.le_refl _)]

/-- A string, at a place. -/
def runesAt (s : ByteArray) (pos : Nat) : List Int := runesL (s.data.toList.drop pos)
theorem runesAt_end {s : ByteArray} {pos : Nat} (h : ¬ pos < s.size) : runesAt s pos = [] := by
  unfold runesAt
  rw [List.drop_eq_nil_of_le (by rw [Array.length_toList]; exact Nat.le_of_not_lt h)]
  rfl
theorem runesAt_step {s : ByteArray} {pos : Nat} (h : pos < s.size) : runesAt s pos = ((Utf8.decode s pos).1 : Int) :: runesAt s (pos + (Utf8.decode s pos).2) := by
  unfold runesAt
  have hne : s.data.toList.drop pos ≠ [] := by
    intro e
    have := congrArg List.length e
    rw [List.length_drop, Array.length_toList] at this
    have h2 : pos < s.data.size := h
    simp at this
    omega
  rw [runesL_step _ hne, decodeL_drop, List.drop_drop]
theorem runesAt_width (s : ByteArray) (pos : Nat) : 1 ≤ (Utf8.decode s pos).2 := by
  rw [← decodeL_drop]; exact decodeL_width _
theorem runesAt_rune (s : ByteArray) (pos : Nat) : (Utf8.decode s pos).1 ≤ 1114111 := by
  rw [← decodeL_drop]; exact decodeL_rune _

def wholeL : List (List UInt8 × List UInt8) := [([195, 128, 195, 136, 195, 140, 195, 146, 195, 153, 195, 160, 195, 168, 195, 172, 195, 178, 195, 185], [65, 69, 73, 79, 85, 97, 101, 105, 111, 117]), ([195, 129, 195, 137, 195, 141, 195, 147, 195, 154, 195, 157, 195, 161, 195, 169, 195, 173, 195, 179, 195, 186, 195, 189], [65, 69, 73, 79, 85, 89, 97, 101, 105, 111, 117, 121]), ([195, 132, 195, 139, 195, 143, 195, 150, 195, 156, 195, 164, 195, 171, 195, 175, 195, 182, 195, 188], [65, 69, 73, 79, 85, 97, 101, 105, 111, 117]), ([195, 135, 195, 167], [67, 99])]

/-- Where a sign stands in a row. -/
def findR (r : Int) : List Int → Option Nat
  | [] => none
  | x :: t => if x = r then some 0 else (findR r t).map (· + 1)
theorem findR_none {r : Int} : ∀ {l : List Int}, r ∉ l → findR r l = none
  | [], _ => rfl
  | x :: t, h => by
    rw [findR, if_neg (fun e => h (by rw [e]; exact List.mem_cons_self)), findR_none (fun e => h (List.mem_cons_of_mem _ e))]
    rfl
theorem findR_at {r : Int} : ∀ {p t : List Int}, r ∉ p → findR r (p ++ r :: t) = some p.length
  | [], _, _ => by rw [List.nil_append, findR, if_pos rfl]; rfl
  | x :: p, t, h => by
    rw [List.cons_append, findR, if_neg (fun e => h (by rw [e]; exact List.mem_cons_self)), findR_at (fun e => h (List.mem_cons_of_mem _ e))]
    rfl
theorem findR_lt {r : Int} : ∀ {l : List Int} {k : Nat}, findR r l = some k → k < l.length
  | [], _, h => by cases h
  | x :: t, k, h => by
    rw [findR] at h
    split at h
    · cases h; simp
    · rcases he : findR r t with _ | j
      · rw [he] at h; cases h
      · rw [he] at h
        cases h
        have := findR_lt he
        simp
        omega

def byteI (l : List UInt8) (k : Nat) : Int := ((l.getD k 0).toNat : Int)
def splitIn (r : Int) : List ((List UInt8 × List UInt8) × (Int × Int)) → List Int
  | [] => [r]
  | ((s, l), m) :: t => match findR r (runesL s) with
    | some k => [byteI l k, m.1]
    | none => splitIn r t
def splitR (r : Int) : List Int := splitIn r (wholeL.zip marksL)

theorem splitIn_skip (r : Int) : ∀ (p t : List ((List UInt8 × List UInt8) × (Int × Int))), (∀ x ∈ p, r ∉ runesL x.1.1) → splitIn r (p ++ t) = splitIn r t
  | [], _, _ => rfl
  | ((s, l), m) :: p, t, h => by
    rw [List.cons_append, splitIn, findR_none (h _ List.mem_cons_self)]
    exact splitIn_skip r p t fun x hx => h x (List.mem_cons_of_mem _ hx)

theorem splitR_none {r : Int} (h : ∀ j row, j < 4 → wholeL[j]? = some row → r ∉ runesL row.1) : splitR r = [r] := by
  have h0 := h 0 _ (by decide) rfl
  have h1 := h 1 _ (by decide) rfl
  have h2 := h 2 _ (by decide) rfl
  have h3 := h 3 _ (by decide) rfl
  unfold splitR
  conv => lhs; rw [← List.append_nil (wholeL.zip marksL)]
  rw [splitIn_skip]
  · rfl
  · intro x hx
    have : x ∈ wholeL.zip marksL → x.1 ∈ wholeL := fun hx => (List.of_mem_zip hx).1
    have := this hx
    obtain ⟨j, hj, hx2⟩ := List.mem_iff_getElem.1 this
    refine h j x.1 (by simpa [wholeL] using hj) ?_
    rw [List.getElem?_eq_getElem hj, hx2]

theorem splitR_at {r : Int} {i : Nat} {row : List UInt8 × List UInt8} {m : Int × Int} {k : Nat} (h : ∀ j row, j < i → wholeL[j]? = some row → r ∉ runesL row.1) (hr : wholeL[i]? = some row) (hm : marksL[i]? = some m) (hk : findR r (runesL row.1) = some k) : splitR r = [byteI row.2 k, m.1] := by
  unfold splitR
  have hz : (wholeL.zip marksL)[i]? = some (row, m) := by rw [List.getElem?_zip_eq_some]; exact ⟨hr, hm⟩
  have hi := (List.getElem?_eq_some_iff.1 hz).1
  rw [← List.take_append_drop i (wholeL.zip marksL), splitIn_skip]
  · rw [List.drop_eq_getElem_cons hi, (List.getElem?_eq_some_iff.1 hz).2]
    obtain ⟨s, l⟩ := row
    rw [splitIn, hk]
  · intro x hx
    obtain ⟨j, hj, hx2⟩ := List.mem_iff_getElem.1 hx
    have hj2 : j < i := by rw [List.length_take] at hj; omega
    rw [List.getElem_take] at hx2
    have hj3 : j < wholeL.length := by
      have := (List.getElem?_eq_some_iff.1 hr).1
      omega
    refine h j x.1 hj2 ?_
    rw [List.getElem?_eq_getElem hj3, ← hx2, List.getElem_zip]

/-- The two texts of a row are of one length. -/
theorem whole_len {j : Nat} {row : List UInt8 × List UInt8} (h : wholeL[j]? = some row) : (runesL row.1).length = row.2.length ∧ row.2.length ≤ 20 := by
  match j, h with
  | 0, h => cases h; decide +kernel
  | 1, h => cases h; decide +kernel
  | 2, h => cases h; decide +kernel
  | 3, h => cases h; decide +kernel
  | k + 4, h => simp [wholeL] at h

end Go.Proofs.YtkapmpngglibjaaDoor
