/- Rows of runes in a block: one cell, exchanges of two; a part exchanged with another. Conditions: each contract's own premises. -/
import Derived.Test.YtkapmpngglibjaaDoorBase
import Derived.BigRegion
import Derived.BigQuiet
import Derived.Deep.QuietTactic
import Derived.WalkSmall
namespace Go.Proofs.YtkapmpngglibjaaDoor
open Go Go.RowKit

def rV (n : Int) : Value := .int .i32 n
/-- d lies in block g behind A and ahead of B. -/
def RowAt (w : World) (g : Nat) (t : TypeId) (A : List Value) (d : List Int) (B : List Value) : Prop := w.heap[g]? = some (.cells (A ++ d.map rV ++ B).toArray t (0, 0))

theorem RowAt.cell {w : World} {g : Nat} {t : TypeId} {A : List Value} {d : List Int} {B : List Value} (h : RowAt w g t A d B) {i : Nat} {x : Int} (hi : d[i]? = some x) : w.cell? ⟨g, A.length + i, none⟩ = some (.int .i32 x) := by
  rw [cell_of h]
  have hlt := (List.getElem?_eq_some_iff.1 hi).1
  rw [List.getElem?_toArray, List.append_assoc, List.getElem?_append_right (by omega), List.getElem?_append_left (by rw [List.length_map]; omega), List.getElem?_map, show A.length + i - A.length = i by omega, hi]
  rfl
theorem RowAt.frozen {w : World} {g : Nat} {t : TypeId} {A : List Value} {d : List Int} {B : List Value} (h : RowAt w g t A d B) (k : Nat) : w.frozen? ⟨g, k, none⟩ = false := frozen_of h k
theorem RowAt.set {w : World} {g : Nat} {t : TypeId} {A : List Value} {d : List Int} {B : List Value} (h : RowAt w g t A d B) (i : Nat) (x : Int) (hi : i < d.length) : RowAt (w.setCell ⟨g, A.length + i, none⟩ (.int .i32 x)) g t A (d.set i x) B := by
  have h1 := heap_set_same (A.length + i) (.int .i32 x) h
  unfold RowAt
  rw [h1]
  congr 2
  apply Array.ext'
  rw [Array.toList_setIfInBounds]
  simp only [List.append_assoc]
  rw [List.set_append_right _ _ (by omega), show A.length + i - A.length = i by omega, List.set_append_left _ _ (by rw [List.length_map]; exact hi), List.map_set]
  rfl
theorem RowAt.frame {X : List Nat} {w w' : World} {g : Nat} {t : TypeId} {A : List Value} {d : List Int} {B : List Value} (h : RowAt w g t A d B) (hf : Frame X w w') (hg : g ∉ X) : RowAt w' g t A d B := hf.heap h hg
theorem RowAt.later {w w' : World} {g : Nat} {t : TypeId} {A : List Value} {d : List Int} {B : List Value} (h : RowAt w g t A d B) (hb : Below w.heap.size w w') : RowAt w' g t A d B := h.frame (Frame.of_below [] hb) (by simp)

def swp (d : List Int) (i j : Nat) : List Int := (d.set i (d.getD j 0)).set j (d.getD i 0)
theorem swp_len (d : List Int) (i j : Nat) : (swp d i j).length = d.length := by simp [swp]
def swapR (d : List Int) (a b : Nat) : Nat → List Int
  | 0 => d
  | n + 1 => swp (swapR d a b n) (a + n) (b + n)
theorem swapR_len (d : List Int) (a b : Nat) : ∀ n, (swapR d a b n).length = d.length
  | 0 => rfl
  | n + 1 => by rw [swapR, swp_len, swapR_len d a b n]

theorem getD_at {d : List Int} {i : Nat} (h : i < d.length) : d[i]? = some (d.getD i 0) := by
  rw [List.getElem?_eq_getElem h, List.getD_eq_getElem?_getD, List.getElem?_eq_getElem h]
  rfl

set_option maxHeartbeats 2000000 in
set_option maxRecDepth 100000 in
theorem swapRange_any (g cap : Nat) (t : TypeId) (A : List Value) (d : List Int) (B : List Value) (a b n : Nat) (fv : Value) (w : World) (h : RowAt w g t A d B) (hl : d.length ≤ 1000) (ha : a + n ≤ d.length) (hab : a < b) (hb : b + n ≤ d.length) :
    Calls Tryd.prog 34 #[.slice (some ⟨g, A.length, none⟩) d.length cap, .int .i64 (a : Int), .int .i64 (b : Int), .int .i64 (n : Int), fv] w
      (Ret (.tuple #[]) fun w' => RowAt w' g t A (swapR d a b n) B ∧ Frame [g] w w') := by
  have H := Lib.hid h
  clear h
  obtain ⟨N, hN⟩ : ∃ N, N = d.length := ⟨_, rfl⟩
  obtain ⟨off, hoff⟩ : ∃ off, off = A.length := ⟨_, rfl⟩
  rw [← hN] at hl ha hb ⊢
  rw [← hoff]
  have HN := Lib.hid (fun (_ : Unit) => And.intro hN hoff)
  clear hN hoff
  have n0 : (0 : Int) ≤ (n : Int) := by omega
  go_enter Tryd.func34, Tryd.ntmps34
  go_wp2_with fail
  go_loopw [10] (fun i wr => ∃ k : Nat, k ≤ n ∧ i = .int .i64 (k : Int) ∧ Hid (RowAt wr g t A (swapR d a b k) B ∧ Frame [g] w wr)) (fun i _ => n - (intOf i).toNat)
  case atStart => exact ⟨0, by omega, rfl, Lib.hid ⟨H.out, Frame.refl _ _⟩⟩
  case round =>
    obtain ⟨k, hk, rfl, HI⟩ := hrel
    have k0 : (0 : Int) ≤ (k : Int) := by omega
    by_cases hlt : k < n
    · have hlt' : (k : Int) < (n : Int) := by omega
      have e1 : (a : Int) + (k : Int) = ((a + k : Nat) : Int) := by omega
      have e2 : (b : Int) + (k : Int) = ((b + k : Nat) : Int) := by omega
      have hsl := swapR_len d a b k
      have hN := (HN.out ()).1
      have ho := (HN.out ()).2
      obtain ⟨xa, hxa⟩ : ∃ x, (swapR d a b k)[a + k]? = some x := ⟨_, List.getElem?_eq_getElem (by omega)⟩
      obtain ⟨xb, hxb⟩ : ∃ x, (swapR d a b k)[b + k]? = some x := ⟨_, List.getElem?_eq_getElem (by omega)⟩
      have ca := HI.out.1.cell hxa
      have cb := HI.out.1.cell hxb
      rw [← ho] at ca cb
      have fz := HI.out.1.frozen
      have HX := Lib.hid (And.intro hxa hxb)
      clear hN ho hsl hxa hxb
      obtain ⟨i, hi⟩ : ∃ i, i = a + k := ⟨_, rfl⟩
      obtain ⟨j, hj⟩ : ∃ j, j = b + k := ⟨_, rfl⟩
      rw [← hi] at e1 ca
      rw [← hj] at e2 cb
      have f1 := fz (off + i)
      have f2 := fz (off + j)
      have i0 : (0 : Int) ≤ (i : Int) := by omega
      have j0 : (0 : Int) ≤ (j : Int) := by omega
      have i1 : (i : Int) < (N : Int) := by omega
      have j1 : (j : Int) < (N : Int) := by omega
      have HIJ := Lib.hid (fun (_ : Unit) => And.intro hi hj)
      have hne : (off + i = off + j) = False := eq_false (by omega)
      have hne' : (off + j = off + i) = False := eq_false (by omega)
      have hne2 : (i = j) = False := eq_false (by omega)
      have hne3 : (j = i) = False := eq_false (by omega)
      clear fz hi hj
      go_wp2_with fail
      go_big_region
      all_goals go_wp2_with fail
      go_roundw
      case rel => exact ⟨k + 1, by omega, by go_num, Lib.hid (by
        have e : swapR d a b (k + 1) = ((swapR d a b k).set i xb).set j xa := by
          have h1 := HX.out.1
          have h2 := HX.out.2
          rw [← (HIJ.out ()).1] at h1
          rw [← (HIJ.out ()).2] at h2
          rw [swapR, ← (HIJ.out ()).1, ← (HIJ.out ()).2, swp, List.getD_eq_getElem?_getD, List.getD_eq_getElem?_getD, h1, h2]
          rfl
        rw [e]
        have hl2 := swapR_len d a b k
        have hN := (HN.out ()).1
        have ho := (HN.out ()).2
        rw [ho]
        refine ⟨(HI.out.1.set i xb (by omega)).set j xa (by rw [List.length_set]; omega), ?_⟩
        exact ((HI.out.2.set (.inl (by simp)) _).set (.inl (by simp)) _).drew)⟩
      case measure => simp [intOf]; omega
    · obtain rfl : k = n := by omega
      go_wp2_with fail
      go_end0
      exact ⟨rfl, HI.out⟩

end Go.Proofs.YtkapmpngglibjaaDoor
