/- Two lists of changes, are they the same? Conditions: the contract's own premises. -/
import Derived.Test.YtkapmpngglibjaaRowB
namespace Go.Proofs.Ytkapmpngglibjaa
open Go Go.RowKit

def sameChg (a b : Chg) : Bool := (a.key.toList == b.key.toList) && (a.val.toList == b.val.toList) && (a.gone == b.gone)


def sameL : List Chg → List Chg → Bool
  | [], [] => true
  | a :: l, b :: m => sameChg a b && sameL l m
  | _, _ => false

theorem sameL_len : ∀ (l m : List Chg), sameL l m = true → l.length = m.length
  | [], [], _ => rfl
  | a :: l, b :: m, h => by
    simp only [sameL, Bool.and_eq_true] at h
    simp [sameL_len l m h.2]
  | [], _ :: _, h => by cases h
  | _ :: _, [], h => by cases h

theorem sameL_iff : ∀ (l m : List Chg), l.length = m.length → (sameL l m = true ↔ ∀ (k : Nat) (a b : Chg), l[k]? = some a → m[k]? = some b → sameChg a b = true)
  | [], [], _ => by simp [sameL]
  | a :: l, b :: m, h => by
    have ih := sameL_iff l m (by simpa using h)
    simp only [sameL, Bool.and_eq_true, ih]
    constructor
    · rintro ⟨h1, h2⟩ k x y hx hy
      cases k with
      | zero => simp at hx hy; subst hx hy; exact h1
      | succ k => exact h2 k x y (by simpa using hx) (by simpa using hy)
    · intro h1
      exact ⟨h1 0 a b rfl rfl, fun k x y hx hy => h1 (k + 1) x y (by simpa using hx) (by simpa using hy)⟩
  | [], _ :: _, h => by cases h
  | _ :: _, [], h => by cases h

theorem sameChg_iff (a b : Chg) : sameChg a b = true ↔ a = b := by
  obtain ⟨k, v, g⟩ := a
  obtain ⟨k', v', g'⟩ := b
  simp only [sameChg, Bool.and_eq_true, beq_iff_eq, Chg.mk.injEq]
  constructor
  · rintro ⟨⟨h1, h2⟩, h3⟩
    rw [ByteArray.toList_eq, ByteArray.toList_eq] at h1 h2
    exact ⟨Go.WideShapes.bytes_inj h1, Go.WideShapes.bytes_inj h2, h3⟩
  · rintro ⟨rfl, rfl, rfl⟩
    exact ⟨⟨rfl, rfl⟩, rfl⟩

set_option maxHeartbeats 2000000 in
set_option maxRecDepth 100000 in
theorem same_changes (v1 v2 : Value) (l1 l2 : List Chg) (w : World) (h1 : ChangesAt w v1 l1) (h2 : ChangesAt w v2 l2) (hmax : l1.length ≤ 1000) :
    Calls Try.prog 41 #[v1, v2] w (Ret (.bool (sameL l1 l2)) fun w' => Below w.heap.size w w') := by
  obtain ⟨ao1, cap1, rfl, hm1, hr1⟩ := h1
  obtain ⟨ao2, cap2, rfl, hm2, hr2⟩ := h2
  simp only [List.length_map] at *
  by_cases hlen : l1.length = l2.length
  case neg =>
    have hf : sameL l1 l2 = false := by
      rw [← Bool.not_eq_true]
      exact fun h => hlen (sameL_len _ _ h)
    have HF := Lib.hid hf
    have hne : ¬ (l1.length : Int) = (l2.length : Int) := by omega
    clear hf hr1 hr2
    generalize l1.length = n1 at *
    generalize l2.length = n2 at *
    clear hlen
    go_enter Try.func41, Try.ntmps41
    go_wp2_with fail
    all_goals go_ret
    all_goals exact Ret.of (by rw [HF.out]; rfl) (Below.refl _ _)
  have hiff := sameL_iff l1 l2 hlen
  rw [← hlen]
  obtain ⟨n, hn⟩ : ∃ n, n = l1.length := ⟨_, rfl⟩
  rw [← hn] at hmax ⊢
  have HN := Lib.hid hn
  have HL := Lib.hid hlen
  have HI := Lib.hid hiff
  have HR := Lib.hid (And.intro hr1 hr2)
  clear hn hm1 hm2 hlen hr1 hr2 hiff
  have n0 : (0 : Int) ≤ (n : Int) := by omega
  have n1 : (n : Int) ≤ 1000 := by omega
  go_enter Try.func41, Try.ntmps41
  go_wp2_with fail
  go_loopw [5] (fun i wr => ∃ k : Nat, k ≤ n ∧ i = .int .i64 (k : Int) ∧ Below w.heap.size w wr ∧ ∀ (j : Nat) (a b : Chg), j < k → l1[j]? = some a → l2[j]? = some b → sameChg a b = true) (fun i _ => n - (intOf i).toNat)
  case atStart => exact ⟨0, by omega, rfl, Below.refl _ _, fun j a b hj => absurd hj (Nat.not_lt_zero _)⟩
  case round =>
    obtain ⟨k, hk, rfl, hB, hall⟩ := hrel
    have HALL := Lib.hid hall
    clear hall
    have b0 : (0 : Int) ≤ (k : Int) := by omega
    by_cases hlt : k < n
    · have b1 : (k : Int) < (n : Int) := by omega
      obtain ⟨⟨ak, av, ag⟩, ha⟩ : ∃ a, l1[k]? = some a := ⟨_, List.getElem?_eq_getElem (by rw [← HN.out]; exact hlt)⟩
      obtain ⟨⟨bk, bv, bg⟩, hb⟩ : ∃ a, l2[k]? = some a := ⟨_, List.getElem?_eq_getElem (by rw [← HL.out, ← HN.out]; exact hlt)⟩
      obtain ⟨q1, q2⟩ := HR.out
      obtain ⟨b1', o1, rfl, e1⟩ := q1 k _ (by rw [List.getElem?_map, ha]; rfl)
      obtain ⟨b2', o2, rfl, e2⟩ := q2 k _ (by rw [List.getElem?_map, hb]; rfl)
      have up : ∀ (a : Addr) (u : Value), w.cell? a = some u → wr.cell? a = some u := fun a u hu => (hB.cell (World.block_lt_of_cell? w _ hu)).trans hu
      have c10 := up _ _ (e1 0 _ rfl)
      have c11 := up _ _ (e1 1 _ rfl)
      have c12 := up _ _ (e1 2 _ rfl)
      have c20 := up _ _ (e2 0 _ rfl)
      have c21 := up _ _ (e2 1 _ rfl)
      have c22 := up _ _ (e2 2 _ rfl)
      simp only [Nat.add_zero] at c10 c20
      have hfalse : sameChg ⟨ak, av, ag⟩ ⟨bk, bv, bg⟩ = false → sameL l1 l2 = false := fun hs => by
        rw [← Bool.not_eq_true]
        intro h
        have := HI.out.1 h k _ _ ha hb
        rw [hs] at this
        cases this
      have hgood : sameChg ⟨ak, av, ag⟩ ⟨bk, bv, bg⟩ = true → ∀ (j : Nat) (a b : Chg), j < k + 1 → l1[j]? = some a → l2[j]? = some b → sameChg a b = true := fun hs j a b hj hx hy => by
        by_cases hjk : j = k
        · subst hjk
          rw [ha] at hx
          rw [hb] at hy
          cases hx
          cases hy
          exact hs
        · exact HALL.out j a b (by omega) hx hy
      have HFALSE := Lib.hid hfalse
      have HGOOD := Lib.hid hgood
      clear up e1 e2 q1 q2 ha hb hfalse hgood
      by_cases s1 : (ak.toList == bk.toList) = true
      case neg =>
        rw [Bool.not_eq_true] at s1
        have HF := Lib.hid (HFALSE.out (by simp only [sameChg, s1, Bool.false_and]))
        go_wp2_with fail
        refine wp_region_plan (fun w2 => w2 = wr.drew) 26 [([0, 1, 4, 5, 2, 6, 3, 7, 8], [], false)] (by kernel_rfl) (by kernel_rfl) ?_
        apply wpStages_last
        case hT => rfl
        case hn => exact Nat.le_refl _
        case hq =>
          rintro w2 rfl
          simp only [picked, List.filterMap_cons, List.filterMap_nil, List.getElem?_cons_zero, List.getElem?_cons_succ]
          repeat still_step
          exact wpStill_nil rfl
        refine wpList_nil (OnlyNormal.mk ?_)
        go_wp2_with fail
        go_ret
        exact Ret.of (by rw [HF.out]; rfl) hB.drew

      by_cases s2 : (av.toList == bv.toList) = true
      case neg =>
        rw [Bool.not_eq_true] at s2
        have HF := Lib.hid (HFALSE.out (by simp only [sameChg, s2, Bool.and_false, Bool.false_and]))
        go_wp2_with fail
        refine wp_region_plan (fun w2 => w2 = wr.drew) 26 [([0, 1, 4, 5, 2, 6, 3, 7, 8], [], false)] (by kernel_rfl) (by kernel_rfl) ?_
        apply wpStages_last
        case hT => rfl
        case hn => exact Nat.le_refl _
        case hq =>
          rintro w2 rfl
          simp only [picked, List.filterMap_cons, List.filterMap_nil, List.getElem?_cons_zero, List.getElem?_cons_succ]
          repeat still_step
          exact wpStill_nil rfl
        refine wpList_nil (OnlyNormal.mk ?_)
        go_wp2_with fail
        go_ret
        exact Ret.of (by rw [HF.out]; rfl) hB.drew

      by_cases s3 : (ag == bg) = true
      case neg =>
        rw [Bool.not_eq_true] at s3
        have HF := Lib.hid (HFALSE.out (by simp only [sameChg, s3, Bool.and_false]))
        go_wp2_with fail
        refine wp_region_plan (fun w2 => w2 = wr.drew) 26 [([0, 1, 4, 5, 2, 6, 3, 7, 8], [], false)] (by kernel_rfl) (by kernel_rfl) ?_
        apply wpStages_last
        case hT => rfl
        case hn => exact Nat.le_refl _
        case hq =>
          rintro w2 rfl
          simp only [picked, List.filterMap_cons, List.filterMap_nil, List.getElem?_cons_zero, List.getElem?_cons_succ]
          repeat still_step
          exact wpStill_nil rfl
        refine wpList_nil (OnlyNormal.mk ?_)
        go_wp2_with fail
        go_ret
        exact Ret.of (by rw [HF.out]; rfl) hB.drew

      have HG := Lib.hid (HGOOD.out (by simp only [sameChg, s1, s2, s3, Bool.and_self]))
      go_wp2_with fail
      refine wp_region_plan (fun w2 => w2 = wr.drew) 26 [([0, 1, 4, 5, 2, 6, 3, 7, 8], [], false)] (by kernel_rfl) (by kernel_rfl) ?_
      apply wpStages_last
      case hT => rfl
      case hn => exact Nat.le_refl _
      case hq =>
        rintro w2 rfl
        simp only [picked, List.filterMap_cons, List.filterMap_nil, List.getElem?_cons_zero, List.getElem?_cons_succ]
        repeat still_step
        exact wpStill_nil rfl
      refine wpList_nil (OnlyNormal.mk ?_)
      go_wp2_with fail
      exact ⟨⟨k + 1, by omega, by go_num, hB.drew, HG.out⟩, by simp [intOf]; omega⟩

    · obtain rfl : k = n := by omega
      have ht : sameL l1 l2 = true := HI.out.2 fun j a b hx hy => HALL.out j a b (by rw [HN.out]; exact (List.getElem?_eq_some_iff.1 hx).1) hx hy
      have HT := Lib.hid ht
      clear ht
      go_wp2_with fail
      go_ret
      exact Ret.of (by rw [HT.out]; rfl) hB

end Go.Proofs.Ytkapmpngglibjaa
