/- The tables of marks and of whole signs; the class of a mark. Conditions: each contract's own premises. -/
import Derived.Test.YtkapmpngglibjaaDoorDA
namespace Go.Proofs.YtkapmpngglibjaaDoor
open Go Go.RowKit

def marksL : List (Int × Int) := [(768, 230), (769, 230), (776, 230), (807, 202)]
def clsR (r : Int) : Int := if r = 768 then 230 else if r = 769 then 230 else if r = 776 then 230 else if r = 807 then 202 else 0

/-- The table of marks, below B. -/
def MarksAt (B : Nat) (w : World) : Prop := ∃ mb off cap, 0 < B ∧ mb < B ∧ w.cell? ⟨0, 0, none⟩ = some (.slice (some ⟨mb, off, none⟩) 4 cap) ∧
  ∀ (i : Nat) (m : Int × Int), marksL[i]? = some m → w.cell? ⟨mb, off + i * 2, none⟩ = some (.int .i32 m.1) ∧ w.cell? ⟨mb, off + i * 2 + 1, none⟩ = some (.int .i64 m.2)

theorem MarksAt.below {B : Nat} {w w' : World} (h : MarksAt B w) (hb : Below B w w') : MarksAt B w' := by
  obtain ⟨mb, off, cap, h0, h1, h2, h3⟩ := h
  refine ⟨mb, off, cap, h0, h1, (hb.cell h0).trans h2, fun i m hm => ?_⟩
  obtain ⟨a, b⟩ := h3 i m hm
  exact ⟨(hb.cell h1).trans a, (hb.cell h1).trans b⟩

theorem marks_lt {k : Nat} {m : Int × Int} (h : marksL[k]? = some m) : k = 0 ∧ m = (768, 230) ∨ k = 1 ∧ m = (769, 230) ∨ k = 2 ∧ m = (776, 230) ∨ k = 3 ∧ m = (807, 202) := by
  match k, h with
  | 0, h => cases h; simp
  | 1, h => cases h; simp
  | 2, h => cases h; simp
  | 3, h => cases h; simp
  | k + 4, h => simp [marksL] at h
theorem cls_at {k : Nat} {m : Int × Int} (h : marksL[k]? = some m) : clsR m.1 = m.2 := by
  rcases marks_lt h with ⟨-, rfl⟩ | ⟨-, rfl⟩ | ⟨-, rfl⟩ | ⟨-, rfl⟩ <;> rfl
theorem cls_none {r : Int} (h : ∀ j m, j < 4 → marksL[j]? = some m → m.1 ≠ r) : clsR r = 0 := by
  have h0 := h 0 _ (by decide) rfl
  have h1 := h 1 _ (by decide) rfl
  have h2 := h 2 _ (by decide) rfl
  have h3 := h 3 _ (by decide) rfl
  simp only at h0 h1 h2 h3
  unfold clsR
  rw [if_neg (Ne.symm h0), if_neg (Ne.symm h1), if_neg (Ne.symm h2), if_neg (Ne.symm h3)]

set_option maxHeartbeats 2000000 in
set_option maxRecDepth 100000 in
theorem class_any (B : Nat) (r : Int) (w : World) (h : MarksAt B w) (hB : B ≤ w.heap.size) :
    Calls Tryd.prog 9 #[.int .i32 r] w (Ret (.int .i64 (clsR r)) fun w' => Below w.heap.size w w') := by
  obtain ⟨mb, off, cap, h0, h1, h2, h3⟩ := h
  have H3 := Lib.hid h3
  have HB := Lib.hid (fun (_ : Unit) => And.intro hB h1)
  clear h3 hB h0 h1
  go_enter Tryd.func9, Tryd.ntmps9
  go_wp2_with fail
  go_loopw [7] (fun i wr => ∃ k : Nat, k ≤ 4 ∧ i = .int .i64 (k : Int) ∧ Below w.heap.size w wr ∧ Hid (∀ j m, j < k → marksL[j]? = some m → m.1 ≠ r)) (fun i _ => 4 - (intOf i).toNat)
  case atStart => exact ⟨0, by omega, rfl, Below.refl _ _, Lib.hid (fun j m hj => absurd hj (Nat.not_lt_zero _))⟩
  case round =>
    obtain ⟨k, hk, rfl, hb, HI⟩ := hrel
    have k0 : (0 : Int) ≤ (k : Int) := by omega
    by_cases hlt : k < 4
    · have hlt' : (k : Int) < 4 := by omega
      obtain ⟨m, hm⟩ : ∃ m, marksL[k]? = some m := ⟨_, List.getElem?_eq_getElem hlt⟩
      have HM := Lib.hid hm
      obtain ⟨c0, c1⟩ := H3.out k m hm
      have up : ∀ (a : Addr) (u : Value), w.cell? a = some u → wr.cell? a = some u := fun a u hu => (hb.cell (World.block_lt_of_cell? w _ hu)).trans hu
      have d0 := up _ _ c0
      have d1 := up _ _ c1
      have HB2 := Lib.hid (fun o => hb.alloc hb.size o)
      clear up c0 c1 hm
      obtain ⟨mr, mc⟩ := m
      simp only at d0 d1
      by_cases hr : mr = r
      · subst hr
        go_wp2_with fail
        go_ret
        exact Ret.of (by rw [show clsR mr = mc from cls_at HM.out]; rfl) (HB2.out _)
      · have hr' : (mr == r) = false := beq_eq_false_iff_ne.2 hr
        have HR := Lib.hid (fun (_ : Unit) => hr)
        clear hr
        go_wp2_with fail
        go_roundw
        case rel =>
          refine ⟨k + 1, by omega, by go_num, HB2.out _, Lib.hid (fun j m hj hm => ?_)⟩
          by_cases hjk : j = k
          · subst hjk
            rw [HM.out] at hm
            cases hm
            exact HR.out ()
          · exact HI.out j m (by omega) hm
        case measure => simp [intOf]; omega
    · have hge : ((k : Int) < 4) = False := eq_false (by omega)
      have hk4 : k = 4 := by omega
      have HN := Lib.hid (show clsR r = 0 from cls_none fun j m hj hm => HI.out j m (by omega) hm)
      clear hk4 hlt hk
      go_wp2_with fail
      go_ret
      exact Ret.of (by rw [HN.out]; rfl) hb

set_option maxHeartbeats 2000000 in
theorem cmp_any (B : Nat) (a b : Int) (w : World) (h : MarksAt B w) (hB : B ≤ w.heap.size) :
    Calls Tryd.prog 17 #[.int .i32 a, .int .i32 b] w (Ret (.int .i64 (clsR a - clsR b)) fun w' => Below w.heap.size w w') := by
  have HM := Lib.hid (And.intro h hB)
  clear h hB
  have hr : ∀ r, 0 ≤ clsR r ∧ clsR r ≤ 230 := fun r => by
    unfold clsR
    repeat' split
    all_goals omega
  obtain ⟨ca, hca, a0, a1⟩ : ∃ c, c = clsR a ∧ 0 ≤ c ∧ c ≤ 230 := ⟨_, rfl, hr a⟩
  obtain ⟨cb, hcb, b0, b1⟩ : ∃ c, c = clsR b ∧ 0 ≤ c ∧ c ≤ 230 := ⟨_, rfl, hr b⟩
  rw [← hca, ← hcb]
  have C1 := Lib.hid (class_any B a w HM.out.1 HM.out.2)
  rw [← hca] at C1
  have C2 := Lib.hid (fun w2 h1 h2 => class_any B b w2 h1 h2)
  rw [← hcb] at C2
  clear hca hcb hr
  go_enter Tryd.func17, Tryd.ntmps17
  go_wp2_with fail
  refine C1.out.mono ?_
  rintro e w1 ⟨rfl, hb1⟩
  go_wp2_with fail
  refine (C2.out w1 (HM.out.1.below (hb1.mono HM.out.2)) (Nat.le_trans HM.out.2 hb1.size)).mono ?_
  rintro e w2 ⟨rfl, hb2⟩
  have HB := Lib.hid (show Below w.heap.size w w2 from hb1.trans (hb2.mono hb1.size))
  clear hb1 hb2
  go_wp2_with fail
  go_ret
  exact Ret.of (by congr 1; try (simp only [wrap64]; omega)) HB.out

end Go.Proofs.YtkapmpngglibjaaDoor
