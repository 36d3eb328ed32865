/- The order of texts: plain. No condition beyond each law's own. -/
import Derived.Lib.Bytealg
import GoSem.Op.String
namespace Go.Proofs.Ytkapmpngglibjaa
open Go

/-- a is below b. -/
abbrev bl (a b : List UInt8) : Bool := Op.bytesLess a b

theorem bl_nil (b : List UInt8) : bl b [] = false := by cases b <;> rfl
theorem bl_cons (x y : UInt8) (a b : List UInt8) : bl (x :: a) (y :: b) = (decide (x < y) || (x == y && bl a b)) := rfl

theorem cmp_lt : ∀ (a b : List UInt8), decide (Lib.compareBytes a b < 0) = bl a b
  | [], [] => rfl
  | [], _ :: _ => rfl
  | _ :: _, [] => rfl
  | x :: a, y :: b => by
    have ih := cmp_lt a b
    rw [bl_cons, Lib.compareBytes]
    by_cases h1 : x < y
    · simp [h1]
    · by_cases h2 : y < x
      · have h3 : ¬ x = y := fun h => by subst h; exact h1 h2
        simp [h1, h2, h3]
      · have h3 : x = y := UInt8.le_antisymm (UInt8.not_lt.1 h2) (UInt8.not_lt.1 h1)
        subst h3
        simp [h1, ← ih]

theorem cmp_eq0 : ∀ (a b : List UInt8), (Lib.compareBytes a b = 0) ↔ a = b
  | [], [] => by simp [Lib.compareBytes]
  | [], _ :: _ => by simp [Lib.compareBytes]
  | _ :: _, [] => by simp [Lib.compareBytes]
  | x :: a, y :: b => by
    have ih := cmp_eq0 a b
    rw [Lib.compareBytes, List.cons.injEq]
    by_cases h1 : x < y
    · have h3 : ¬ x = y := fun h => by subst h; exact UInt8.lt_irrefl _ h1
      simp [h1, h3]
    · by_cases h2 : y < x
      · have h3 : ¬ x = y := fun h => by subst h; exact h1 h2
        simp [h1, h2, h3]
      · have h3 : x = y := UInt8.le_antisymm (UInt8.not_lt.1 h2) (UInt8.not_lt.1 h1)
        subst h3
        simp [h1, ih]

theorem bl_irrefl : ∀ (a : List UInt8), bl a a = false
  | [] => rfl
  | x :: a => by rw [bl_cons, bl_irrefl a]; simp

theorem bl_trans : ∀ (a b c : List UInt8), bl a b = true → bl b c = true → bl a c = true
  | a, b, [], _, h => by rw [bl_nil] at h; cases h
  | a, [], _ :: _, h, _ => by rw [bl_nil] at h; cases h
  | [], _ :: _, _ :: _, _, _ => rfl
  | x :: a, y :: b, z :: c, h1, h2 => by
    have ih := bl_trans a b c
    rw [bl_cons, Bool.or_eq_true, Bool.and_eq_true, decide_eq_true_eq, beq_iff_eq] at *
    rcases h1 with h1 | ⟨rfl, h1⟩
    · rcases h2 with h2 | ⟨rfl, h2⟩
      · exact .inl (UInt8.lt_trans h1 h2)
      · exact .inl h1
    · rcases h2 with h2 | ⟨rfl, h2⟩
      · exact .inl h2
      · exact .inr ⟨rfl, ih h1 h2⟩

theorem bl_total : ∀ (a b : List UInt8), bl a b = true ∨ a = b ∨ bl b a = true
  | [], [] => .inr (.inl rfl)
  | [], _ :: _ => .inl rfl
  | _ :: _, [] => .inr (.inr rfl)
  | x :: a, y :: b => by
    have ih := bl_total a b
    rw [bl_cons, bl_cons]
    by_cases h1 : x < y
    · simp [h1]
    · by_cases h2 : y < x
      · simp [h2]
      · have h3 : x = y := UInt8.le_antisymm (UInt8.not_lt.1 h2) (UInt8.not_lt.1 h1)
        subst h3
        rcases ih with ih | ih | ih <;> simp [ih]

theorem bl_asymm {a b : List UInt8} (h : bl a b = true) : bl b a = false := by
  rw [← Bool.not_eq_true]
  intro h2
  have := bl_trans _ _ _ h h2
  rw [bl_irrefl] at this
  cases this

theorem bl_ne {a b : List UInt8} (h : bl a b = true) : a ≠ b := fun e => by subst e; rw [bl_irrefl] at h; cases h

/-- Not below: equal or above. -/
theorem bl_false {a b : List UInt8} (h : bl a b = false) : a = b ∨ bl b a = true := by
  rcases bl_total a b with h1 | h1 | h1
  · rw [h] at h1; cases h1
  · exact .inl h1
  · exact .inr h1

end Go.Proofs.Ytkapmpngglibjaa
