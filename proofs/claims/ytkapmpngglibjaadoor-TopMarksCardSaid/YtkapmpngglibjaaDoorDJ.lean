/- A stable sort of up to 39 marks. Conditions: each contract's own premises. -/
import Derived.Test.YtkapmpngglibjaaDoorDI
namespace Go.Proofs.YtkapmpngglibjaaDoor
open Go Go.RowKit

def TwoParts (g : Nat) (t : TypeId) (A : List Value) (d : List Int) (B : List Value) (n : Nat) (w w' : World) : Prop :=
  ∃ d', RowAt w' g t A d' B ∧ Rel 0 n d d' ∧ (n ≤ 20 → Srt 0 n d') ∧ (20 < n → Srt 0 20 d' ∧ Srt 20 n d') ∧ Frame [g] w w'

set_option maxHeartbeats 8000000 in
set_option maxRecDepth 100000 in
theorem stable_any (B0 g cap : Nat) (t : TypeId) (A : List Value) (d : List Int) (B : List Value) (w : World) (h : InSort B0 w g t A d B) (hl : d.length ≤ 39) :
    Calls Tryd.prog 20 #[.slice (some ⟨g, A.length, none⟩) d.length cap, .int .i64 (d.length : Int), .func (.func 17) #[] #[]] w
      (Ret (.tuple #[]) (SortRes g t A d B 0 d.length w)) := by
  have H := Lib.hid h
  clear h
  have INS := Lib.hid (fun (d1 : List Int) (w1 : World) (a1 b1 : Nat) (q1 : InSort B0 w1 g t A d1 B) (q2 : d1.length = d.length) (q3 : a1 ≤ b1) (q4 : b1 ≤ d.length) => by
    have := insertion_any B0 g cap t A d1 B a1 b1 w1 q1 (by omega) q3 (by omega)
    rw [q2] at this
    exact this)
  have SYM := Lib.hid (fun (d1 : List Int) (w1 : World) (a1 m1 b1 : Nat) (q1 : InSort B0 w1 g t A d1 B) (q2 : d1.length = d.length) (q3 : a1 < m1) (q4 : m1 < b1) (q5 : b1 ≤ d.length) (q6 : Srt a1 m1 d1) (q7 : Srt m1 b1 d1) => by
    have := symMerge_any B0 g cap t A B (b1 - a1) d1 w1 a1 m1 b1 (Nat.le_refl _) q1 (by omega) q3 q4 (by omega) q6 q7
    rw [q2] at this
    exact this)
  obtain ⟨N, hN⟩ : ∃ N, N = d.length := ⟨_, rfl⟩
  obtain ⟨off, hoff⟩ : ∃ off, off = A.length := ⟨_, rfl⟩
  rw [← hN] at hl INS SYM ⊢
  rw [← hoff] at INS SYM ⊢
  have HN := Lib.hid (fun (_ : Unit) => And.intro hN hoff)
  clear hN hoff
  have n0 : (0 : Int) ≤ (N : Int) := by omega
  go_enter Tryd.func20, Tryd.ntmps20
  go_wp2_with fail
  go_loopw [7, 8] (fun iv jv wr => ∃ a b : Nat, a ≤ 20 ∧ b ≤ 40 ∧ Hid (a = 0 ∧ b = 20 ∨ a = 20 ∧ b = 40 ∧ 20 ≤ N) ∧ iv = .int .i64 (a : Int) ∧ jv = .int .i64 (b : Int) ∧ Hid (∃ dk, RowAt wr g t A dk B ∧ Rel 0 N d dk ∧ (a = 20 → Srt 0 20 dk) ∧ Frame [g] w wr)) (fun iv _ _ => 20 - (intOf iv).toNat)
  case atStart => exact ⟨0, 20, by omega, by omega, Lib.hid (.inl ⟨rfl, rfl⟩), rfl, rfl, Lib.hid ⟨d, H.out.row, Rel.refl _ _ _, (fun e => absurd e (by decide)), Frame.refl _ _⟩⟩
  case round =>
    obtain ⟨a, b, a1, b1, HAB, rfl, rfl, HI⟩ := hrel
    have a0 : (0 : Int) ≤ (a : Int) := by omega
    have b0 : (0 : Int) ≤ (b : Int) := by omega
    obtain ⟨dk, r1, r2, r3, r4⟩ := HI.out
    have HD := Lib.hid (And.intro r1 (And.intro r2 (And.intro r3 r4)))
    clear r1 r2 r3 r4 HI
    by_cases hbn : b ≤ N
    · have hbn' : ((b : Int) ≤ (N : Int)) = True := eq_true (by omega)
      have HC := Lib.hid (INS.out dk wr a b (H.out.moved HD.out.1 (HD.out.2.1.marks H.out.mks) HD.out.2.2.2) (HD.out.2.1.len.trans (HN.out ()).1.symm) (by have := HAB.out; omega) hbn)
      go_wp2_with fail
      refine HC.out.mono ?_
      clear HC
      rintro ev w1 ⟨rfl, hr⟩
      have HR := Lib.hid hr
      clear hr
      go_wp2_with fail
      go_roundw
      case rel =>
        have hab : a = 0 ∧ b = 20 := by have := HAB.out; omega
        obtain ⟨rfl, rfl⟩ := hab
        obtain ⟨d2, r1, r2, r3, r4⟩ := HR.out
        exact ⟨20, 40, by omega, by omega, Lib.hid (.inr ⟨rfl, rfl, hbn⟩), rfl, by go_num, Lib.hid ⟨d2, r1, HD.out.2.1.trans (r2.wide (Nat.le_refl _) hbn), fun _ => r3, HD.out.2.2.2.trans r4⟩⟩
      case measure => have := HAB.out; simp [intOf]; omega
    · have hbn' : ((b : Int) ≤ (N : Int)) = False := eq_false (by omega)
      have hab : a = 0 ∧ N < 20 ∨ a = 20 ∧ 20 ≤ N := by have := HAB.out; omega
      have HA := Lib.hid (fun (_ : Unit) => hab)
      have HC := Lib.hid (INS.out dk wr a N (H.out.moved HD.out.1 (HD.out.2.1.marks H.out.mks) HD.out.2.2.2) (HD.out.2.1.len.trans (HN.out ()).1.symm) (by omega) (Nat.le_refl _))
      clear hab
      go_wp2_with fail
      refine HC.out.mono ?_
      clear HC
      rintro ev w1 ⟨rfl, hr⟩
      have HR := Lib.hid (show TwoParts g t A d B N w w1 from by
        obtain ⟨d2, r1, r2, r3, r4⟩ := hr
        refine ⟨d2, r1, HD.out.2.1.trans (r2.wide (by omega) (Nat.le_refl _)), fun hn => ?_, fun hn => ?_, HD.out.2.2.2.trans r4⟩
        · rcases HA.out () with ⟨rfl, -⟩ | ⟨rfl, h2⟩
          · exact r3
          · have : N = 20 := by omega
            rw [this]
            exact (HD.out.2.2.1 rfl).rel r2 (.inl (Nat.le_refl _))
        · rcases HA.out () with ⟨rfl, h2⟩ | ⟨rfl, h2⟩
          · omega
          · exact ⟨(HD.out.2.2.1 rfl).rel r2 (.inl (Nat.le_refl _)), r3⟩)
      clear hr HD
      go_wp2_with fail
      go_loopw [6, 7, 8, 9] (fun sv av bv mv wq => ∃ s : Nat, s ≤ 40 ∧ Hid (s = 20 ∧ TwoParts g t A d B N w wq ∨ s = 40 ∧ SortRes g t A d B 0 N w wq) ∧ sv = .int .i64 (s : Int)) (fun sv _ _ _ _ => 40 - (intOf sv).toNat)
      case atStart => exact ⟨20, by omega, Lib.hid (.inl ⟨rfl, HR.out⟩), rfl⟩
      case round =>
        obtain ⟨s, s1, HT, rfl⟩ := hrel
        have s0 : (0 : Int) ≤ (s : Int) := by omega
        by_cases hsN : s < N
        · have hsN' : ((s : Int) < (N : Int)) = True := eq_true (by omega)
          have hs20 : s = 20 := by rcases HT.out with ⟨h1, -⟩ | ⟨h1, -⟩ <;> omega
          have HE := Lib.hid (show TwoParts g t A d B N w wr from by
            rcases HT.out with ⟨-, h2⟩ | ⟨h1, -⟩
            · exact h2
            · omega)
          obtain ⟨v, hv⟩ : ∃ v, v = 40 := ⟨_, rfl⟩
          have ev : (2 : Int) * (s : Int) = (v : Int) := by omega
          have ev2 : (s : Int) * 2 = (v : Int) := by omega
          have v0 : (0 : Int) ≤ (v : Int) := by omega
          have v1 : (v : Int) ≤ 40 := by omega
          have vN : ((v : Int) ≤ (N : Int)) = False := eq_false (by omega)
          have HS := Lib.hid (fun (_ : Unit) => And.intro hs20 hv)
          clear hs20 hv HT
          go_wp2_with fail
          go_loopw [7, 8] (fun av bv wq => av = .int .i64 0 ∧ bv = .int .i64 (v : Int) ∧ Hid (TwoParts g t A d B N w wq)) (fun _ _ _ => 0)
          case atStart => exact ⟨rfl, rfl, HE⟩
          case round =>
            obtain ⟨rfl, rfl, HE⟩ := hrel
            obtain ⟨d1, r1, r2, r3, r4, r5⟩ := HE.out
            have HD := Lib.hid (And.intro r1 (And.intro r2 r5))
            have HC := Lib.hid (SYM.out d1 wr 0 s N (H.out.moved r1 (r2.marks H.out.mks) r5) (r2.len.trans (HN.out ()).1.symm) (by have := (HS.out ()).1; omega) hsN (Nat.le_refl _) (by rw [(HS.out ()).1]; exact (r4 (by have := (HS.out ()).1; omega)).1) (by rw [(HS.out ()).1]; exact (r4 (by have := (HS.out ()).1; omega)).2))
            clear r1 r2 r3 r4 r5 HE
            go_wp2_with fail
            refine HC.out.mono ?_
            clear HC
            rintro ev w1 ⟨rfl, hr⟩
            have HR := Lib.hid (show SortRes g t A d B 0 N w w1 from by
              obtain ⟨d2, r1, r2, r3, r4⟩ := hr
              exact ⟨d2, r1, HD.out.2.1.trans r2, r3, HD.out.2.2.trans r4⟩)
            clear hr HD
            go_wp2_with fail
            go_roundw
            case rel => exact ⟨v, by omega, Lib.hid (.inr ⟨(HS.out ()).2, HR.out⟩), rfl⟩
            case measure => have h1 := (HS.out ()).1; have h2 := (HS.out ()).2; simp [intOf]; omega
        · have hsN' : ((s : Int) < (N : Int)) = False := eq_false (by omega)
          have HR := Lib.hid (show SortRes g t A d B 0 N w wr from by
            rcases HT.out with ⟨h1, d2, r1, r2, r3, r4, r5⟩ | ⟨-, h2⟩
            · exact ⟨d2, r1, r2, r3 (by omega), r5⟩
            · exact h2)
          clear HT
          go_wp2_with fail
          go_end0
          exact ⟨rfl, HR.out⟩

set_option maxHeartbeats 2000000 in
set_option maxRecDepth 100000 in
theorem sortStable_any (B0 g cap : Nat) (t : TypeId) (A : List Value) (d : List Int) (B : List Value) (w : World) (h : InSort B0 w g t A d B) (hl : d.length ≤ 39) :
    Calls Tryd.prog 16 #[.slice (some ⟨g, A.length, none⟩) d.length cap, .func (.func 17) #[] #[]] w
      (Ret (.tuple #[]) (SortRes g t A d B 0 d.length w)) := by
  have HC := Lib.hid (stable_any B0 g cap t A d B w h hl)
  clear h
  obtain ⟨N, hN⟩ : ∃ N, N = d.length := ⟨_, rfl⟩
  obtain ⟨off, hoff⟩ : ∃ off, off = A.length := ⟨_, rfl⟩
  rw [← hN] at hl HC ⊢
  rw [← hoff] at HC ⊢
  clear hN hoff
  have n0 : (0 : Int) ≤ (N : Int) := by omega
  go_enter Tryd.func16, Tryd.ntmps16
  go_wp2_with fail
  refine HC.out.mono ?_
  clear HC
  rintro ev w1 ⟨rfl, hr⟩
  have HR := Lib.hid hr
  clear hr
  go_wp2_with fail
  go_end0
  exact ⟨rfl, HR.out⟩

end Go.Proofs.YtkapmpngglibjaaDoor
