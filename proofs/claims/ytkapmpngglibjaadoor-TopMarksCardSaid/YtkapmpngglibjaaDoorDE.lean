/- Two parts that stand one behind the other change places. Conditions: each contract's own premises. -/
import Derived.Test.YtkapmpngglibjaaDoorDD
namespace Go.Proofs.YtkapmpngglibjaaDoor
open Go Go.RowKit

def swF (x : Nat → Int) (a b n : Nat) (k : Nat) : Int := if a ≤ k ∧ k < a + n then x (b + (k - a)) else if b ≤ k ∧ k < b + n then x (a + (k - b)) else x k
def rotF (x : Nat → Int) (lo m hi : Nat) (k : Nat) : Int := if lo ≤ k ∧ k < lo + (hi - m) then x (m + (k - lo)) else if lo + (hi - m) ≤ k ∧ k < hi then x (k - (hi - m)) else x k

theorem swapR_get (d : List Int) (a b : Nat) : ∀ (n : Nat), a + n ≤ b → b + n ≤ d.length → ∀ k, (swapR d a b n).getD k 0 = swF (fun q => d.getD q 0) a b n k
  | 0, _, _, k => by
    unfold swF
    rw [if_neg (by omega), if_neg (by omega)]
    rfl
  | n + 1, h1, h2, k => by
    have ih := swapR_get d a b n (by omega) (by omega)
    rw [swapR, swp_get _ _ _ _ (by rw [swapR_len]; omega) (by rw [swapR_len]; omega), ih, ih, ih]
    unfold swF
    repeat' split
    all_goals first
      | omega
      | (congr 1; omega)

theorem rot_big (x : Nat → Int) (m i j : Nat) (hi : i ≤ m) (hj : j < i) (k : Nat) : rotF (swF x (m - i) m j) (m - i + j) m (m + j) k = rotF x (m - i) m (m + j) k := by
  unfold rotF swF
  repeat' split
  all_goals first
    | omega
    | (congr 1; omega)
theorem rot_less (x : Nat → Int) (m i j : Nat) (hi : i ≤ m) (hj : i < j) (k : Nat) : rotF (swF x (m - i) (m + j - i) i) (m - i) m (m + j - i) k = rotF x (m - i) m (m + j) k := by
  unfold rotF swF
  repeat' split
  all_goals first
    | omega
    | (congr 1; omega)
theorem rot_same (x : Nat → Int) (m i : Nat) (hi : i ≤ m) (k : Nat) : swF x (m - i) m i k = rotF x (m - i) m (m + i) k := by
  unfold rotF swF
  repeat' split
  all_goals first
    | omega
    | (congr 1; omega)

theorem rot_congr {x y : Nat → Int} (h : ∀ k, x k = y k) (lo m hi k : Nat) : rotF x lo m hi k = rotF y lo m hi k := by
  have : x = y := funext h
  rw [this]

def RotRes (g : Nat) (t : TypeId) (A : List Value) (d : List Int) (B : List Value) (a m b : Nat) (w w' : World) : Prop := ∃ d', RowAt w' g t A d' B ∧ d'.length = d.length ∧ (∀ k, d'.getD k 0 = rotF (fun q => d.getD q 0) a m b k) ∧ Frame [g] w w'

set_option maxHeartbeats 4000000 in
set_option maxRecDepth 100000 in
theorem rotate_any (g cap : Nat) (t : TypeId) (A : List Value) (d : List Int) (B : List Value) (a m b : Nat) (fv : Value) (w : World) (h : RowAt w g t A d B) (hl : d.length ≤ 1000) (ham : a < m) (hmb : m < b) (hb : b ≤ d.length) :
    Calls Tryd.prog 28 #[.slice (some ⟨g, A.length, none⟩) d.length cap, .int .i64 (a : Int), .int .i64 (m : Int), .int .i64 (b : Int), fv] w
      (Ret (.tuple #[]) (RotRes g t A d B a m b w)) := by
  have H := Lib.hid h
  clear h
  have SW := Lib.hid (fun (d2 : List Int) (a2 b2 n2 : Nat) (w2 : World) (h2 : RowAt w2 g t A d2 B) (hl2 : d2.length = d.length) (e1 : a2 + n2 ≤ b2) (e2 : a2 < b2) (e3 : b2 + n2 ≤ d.length) => by
    have := swapRange_any g cap t A d2 B a2 b2 n2 fv w2 h2 (by omega) (by omega) e2 (by omega)
    rw [hl2] at this
    exact this)
  obtain ⟨N, hN⟩ : ∃ N, N = d.length := ⟨_, rfl⟩
  obtain ⟨off, hoff⟩ : ∃ off, off = A.length := ⟨_, rfl⟩
  rw [← hN] at hl hb ⊢
  rw [← hoff]
  rw [← hN, ← hoff] at SW
  have HN := Lib.hid (fun (_ : Unit) => And.intro hN hoff)
  clear hN hoff
  have e1 : (m : Int) - (a : Int) = ((m - a : Nat) : Int) := by omega
  have e2 : (b : Int) - (m : Int) = ((b - m : Nat) : Int) := by omega
  go_enter Tryd.func28, Tryd.ntmps28
  go_wp2_with fail
  go_loopw [10, 11] (fun iv jv wr => ∃ i j : Nat, 0 < i ∧ 0 < j ∧ i + j ≤ b - a ∧ i ≤ m ∧ a + i ≤ m ∧ m + j ≤ b ∧ iv = .int .i64 (i : Int) ∧ jv = .int .i64 (j : Int) ∧ Hid (∃ x, RowAt wr g t A x B ∧ x.length = d.length ∧ (∀ k, rotF (fun q => x.getD q 0) (m - i) m (m + j) k = rotF (fun q => d.getD q 0) a m b k) ∧ Frame [g] w wr)) (fun iv jv _ => (intOf iv).toNat + (intOf jv).toNat)
  case atStart =>
    refine ⟨m - a, b - m, by omega, by omega, by omega, by omega, by omega, by omega, by go_num, by go_num, Lib.hid ⟨d, H.out, rfl, fun k => ?_, Frame.refl _ _⟩⟩
    rw [show m - (m - a) = a by omega, show m + (b - m) = b by omega]
  case round =>
    obtain ⟨i, j, hi0, hj0, hij, him, hai, hjb, rfl, rfl, HI⟩ := hrel
    obtain ⟨x, hx1, hx2, hx3, hx4⟩ := HI.out
    have HX := Lib.hid (And.intro hx1 (And.intro hx2 (And.intro hx3 hx4)))
    clear hx1 hx2 hx3 hx4 HI
    have i0 : (0 : Int) ≤ (i : Int) := by omega
    have j0 : (0 : Int) ≤ (j : Int) := by omega
    have f1 : (m : Int) - (i : Int) = ((m - i : Nat) : Int) := by omega
    by_cases hlt : j < i
    · have n1 : ((i : Int) == (j : Int)) = false := beq_eq_false_iff_ne.2 (by omega)
      have n2 : ((j : Int) < (i : Int)) = True := eq_true (by omega)
      have f2 : (i : Int) - (j : Int) = ((i - j : Nat) : Int) := by omega
      have HC := Lib.hid (SW.out x (m - i) m j wr HX.out.1 (HX.out.2.1.trans (HN.out ()).1.symm) (by omega) (by omega) (by have := HX.out.2.1; omega))
      go_wp2_with fail
      refine HC.out.mono ?_
      clear HC
      rintro e w1 ⟨rfl, hr, hf⟩
      have HR := Lib.hid (show ∃ y, RowAt w1 g t A y B ∧ y.length = d.length ∧ (∀ k, rotF (fun q => y.getD q 0) (m - (i - j)) m (m + j) k = rotF (fun q => d.getD q 0) a m b k) ∧ Frame [g] w w1 from
        ⟨_, hr, by rw [swapR_len]; exact HX.out.2.1, fun k => by
          have hN := (HN.out ()).1
          rw [rot_congr (swapR_get x (m - i) m j (by omega) (by rw [HX.out.2.1]; omega)), show m - (i - j) = m - i + j by omega, rot_big _ _ _ _ him hlt, HX.out.2.2.1], HX.out.2.2.2.trans hf⟩)
      clear hr hf
      go_wp2_with fail
      go_roundw
      case rel => exact ⟨i - j, j, by omega, hj0, by omega, by omega, by omega, hjb, by go_num, rfl, HR⟩
      case measure => simp [intOf]; omega
    · by_cases hlt2 : i < j
      · have n1 : ((i : Int) == (j : Int)) = false := beq_eq_false_iff_ne.2 (by omega)
        have n2 : ((j : Int) < (i : Int)) = False := eq_false (by omega)
        have f2 : (j : Int) - (i : Int) = ((j - i : Nat) : Int) := by omega
        have f3 : (m : Int) + (j : Int) - (i : Int) = ((m + j - i : Nat) : Int) := by omega
        have HC := Lib.hid (SW.out x (m - i) (m + j - i) i wr HX.out.1 (HX.out.2.1.trans (HN.out ()).1.symm) (by omega) (by omega) (by have := HX.out.2.1; omega))
        go_wp2_with fail
        refine HC.out.mono ?_
        clear HC
        rintro e w1 ⟨rfl, hr, hf⟩
        have HR := Lib.hid (show ∃ y, RowAt w1 g t A y B ∧ y.length = d.length ∧ (∀ k, rotF (fun q => y.getD q 0) (m - i) m (m + (j - i)) k = rotF (fun q => d.getD q 0) a m b k) ∧ Frame [g] w w1 from
          ⟨_, hr, by rw [swapR_len]; exact HX.out.2.1, fun k => by
            have hN := (HN.out ()).1
            rw [rot_congr (swapR_get x (m - i) (m + j - i) i (by omega) (by rw [HX.out.2.1]; omega)), show m + (j - i) = m + j - i by omega, rot_less _ _ _ _ him hlt2, HX.out.2.2.1], HX.out.2.2.2.trans hf⟩)
        clear hr hf
        go_wp2_with fail
        go_roundw
        case rel => exact ⟨i, j - i, hi0, by omega, by omega, by omega, by omega, by omega, rfl, by go_num, HR⟩
        case measure => simp [intOf]; omega
      · obtain rfl : i = j := by omega
        have HC := Lib.hid (SW.out x (m - i) m i wr HX.out.1 (HX.out.2.1.trans (HN.out ()).1.symm) (by omega) (by omega) (by have := HX.out.2.1; omega))
        go_wp2_with fail
        refine HC.out.mono ?_
        clear HC
        rintro e w1 ⟨rfl, hr, hf⟩
        have HR := Lib.hid (show RotRes g t A d B a m b w w1 from
          ⟨_, hr, by rw [swapR_len]; exact HX.out.2.1, fun k => by
            have hN := (HN.out ()).1
            rw [swapR_get x (m - i) m i (by omega) (by rw [HX.out.2.1]; omega), rot_same _ _ _ him, HX.out.2.2.1], HX.out.2.2.2.trans hf⟩)
        clear hr hf
        go_wp2_with fail
        go_end0
        exact ⟨rfl, HR.out⟩

end Go.Proofs.YtkapmpngglibjaaDoor
