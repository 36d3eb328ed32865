/- Several texts in one: what each begins with says what it shows. Conditions: each law's own premises. -/
import Derived.Test.YtkapmpngglibjaaQ12

/- goodRows: where it says true, they rise. And guarded operations of a region, by a plan. Conditions: each contract's own premises. -/
namespace Go.Proofs.Ytkapmpngglibjaa
open Go Go.RowKit

section
variable {P : Program} {ops : Array Oper} {w : World} {Q : Act → Prop} {a : Act} {o : Oper} {rest : List Oper}
theorem wpStill_want (hw : Region.wanted o (yielded ops a.tmps) = true) (h : ∀ K : Act → Prop, (∀ a, wpStill P ops w Q rest a → K a) → o.still P a w K) : wpStill P ops w Q (o :: rest) a :=
  wpStill_step fun K hK => by rw [if_pos hw]; exact h K hK
theorem wpStill_skip (hw : Region.wanted o (yielded ops a.tmps) = false) (h : ∀ K : Act → Prop, (∀ a, wpStill P ops w Q rest a → K a) → K (a.put o.dst undef)) : wpStill P ops w Q (o :: rest) a :=
  wpStill_step fun K hK => by rw [if_neg (by rw [hw]; exact Bool.false_ne_true)]; exact h K hK
end

/-- What goodRows tells: where it says true, they rise. -/
def GoodRes (l : List Chg) (w : World) (v : Value) (w' : World) : Prop := ∃ b, v = .bool b ∧ (b = true → Rising l) ∧ Below w.heap.size w w'

set_option maxHeartbeats 2000000 in
set_option maxRecDepth 100000 in
theorem goodRows_any (v : Value) (l : List Chg) (w : World) (h : ChangesAt w v l) (hn : l.length ≤ 1000) :
    Calls Try.prog 40 #[v] w (RetV (GoodRes l w)) := by
  obtain ⟨ao, cap, rfl, hr⟩ := h.form
  obtain ⟨n, hnn⟩ : ∃ n, n = l.length := ⟨_, rfl⟩
  rw [← hnn] at hn ⊢
  have HR := Lib.hid hr
  have HN := Lib.hid hnn
  clear hr hnn h
  have n0 : (0 : Int) ≤ (n : Int) := by omega
  have n1 : (n : Int) ≤ 1000 := by omega
  go_enter Try.func40, Try.ntmps40
  go_wp2_with fail
  go_loopw [3] (fun i wr => ∃ k : Nat, k ≤ n ∧ i = .int .i64 (k : Int) ∧ Below w.heap.size w wr ∧ Hid (Rising (l.take k))) (fun i _ => n - (intOf i).toNat)
  case atStart => exact ⟨0, Nat.zero_le _, rfl, Below.refl _ _, by rw [List.take_zero]; exact List.Pairwise.nil⟩
  case round =>
    obtain ⟨k, hk, rfl, hB, HRK⟩ := hrel
    have k0 : (0 : Int) ≤ (k : Int) := by omega
    by_cases hlt : k < n
    · have k1 : (k : Int) < (n : Int) := by omega
      obtain ⟨⟨ak, av, ag⟩, ha⟩ : ∃ a, l[k]? = some a := ⟨_, List.getElem?_eq_getElem (by rw [← HN.out]; exact hlt)⟩
      obtain ⟨b, off, rfl, c0, c1, c2⟩ := HR.out k _ ha
      have HA := Lib.hid ha
      have up : ∀ (w2 : World), Below wr.heap.size wr w2 → ∀ (a : Addr) (u : Value), w.cell? a = some u → w2.cell? a = some u := fun w2 hb a u hu => by
        have h1 := (hB.cell (World.block_lt_of_cell? w _ hu)).trans hu
        exact (hb.cell (World.block_lt_of_cell? wr _ h1)).trans h1
      have UP := Lib.hid up
      have C0 := Lib.hid c0
      have C1 := Lib.hid c1
      have C2 := Lib.hid c2
      clear up c0 c1 c2 ha
      go_wp2_with fail
      refine wp_region_plan (fun w2 => Below wr.heap.size wr w2) 41 [([0, 1, 2, 3], [4], true), ([5, 6, 7, 8, 9, 10, 11, 12, 13, 14, 15, 16, 17, 18, 19, 20, 21, 22, 23, 24, 25, 26, 27, 28, 29, 30], [], false)] (by kernel_rfl) (by kernel_rfl) ?_
      apply wpStages_keep
      case hT => exact (Below.refl _ _).drew
      case hn => exact Nat.le_refl _
      case hq =>
        intro w2 hT
        have c0 := UP.out w2 hT _ _ C0.out
        have c1 := UP.out w2 hT _ _ C1.out
        have c2 := UP.out w2 hT _ _ C2.out
        simp only [picked, List.filterMap_cons, List.filterMap_nil, List.getElem?_cons_zero, List.getElem?_cons_succ]
        repeat still_step
        exact wpStill_nil rfl
      simp only [picked, List.filterMap_cons, List.filterMap_nil, List.getElem?_cons_zero, List.getElem?_cons_succ]
      go_wp2_with fail
      refine (fault_any ak av ag _).mono ?_
      rintro e w3 ⟨rfl, hB3⟩
      have hT3 : Below wr.heap.size wr w3 := (Below.refl _ _).drew.trans hB3
      generalize hm : faultOf ⟨ak, av, ag⟩ = m
      have HM := Lib.hid hm
      clear hm hB3
      unfold errN
      go_wp2_with fail
      refine OnlyNormal.mk ⟨hT3, ?_⟩
      have HT3 := Lib.hid hT3
      by_cases hm0 : 0 < m
      · have hm1 : (0 : Int) < (m : Int) := by omega
        apply wpStages_last
        case hT => exact hT3
        case hn => exact Nat.le_refl _
        case hq =>
          intro w2 hT
          simp only [picked, List.filterMap_cons, List.filterMap_nil, List.getElem?_cons_zero, List.getElem?_cons_succ]
          with_reducible refine wpStill_want ?hw (fun K hK => ?_)
          case hw => kernel_rfl
          (go_simp; refine hK _ ?_; clear hK K)
          with_reducible refine wpStill_want ?hw (fun K hK => ?_)
          case hw => kernel_rfl
          (go_simp; refine hK _ ?_; clear hK K)
          with_reducible refine wpStill_skip ?hw (fun K hK => ?_)
          case hw => kernel_rfl
          (go_simp; refine hK _ ?_; clear hK K)
          with_reducible refine wpStill_skip ?hw (fun K hK => ?_)
          case hw => kernel_rfl
          (go_simp; refine hK _ ?_; clear hK K)
          with_reducible refine wpStill_skip ?hw (fun K hK => ?_)
          case hw => kernel_rfl
          (go_simp; refine hK _ ?_; clear hK K)
          with_reducible refine wpStill_skip ?hw (fun K hK => ?_)
          case hw => kernel_rfl
          (go_simp; refine hK _ ?_; clear hK K)
          with_reducible refine wpStill_skip ?hw (fun K hK => ?_)
          case hw => kernel_rfl
          (go_simp; refine hK _ ?_; clear hK K)
          with_reducible refine wpStill_want ?hw (fun K hK => ?_)
          case hw => kernel_rfl
          (go_simp; refine hK _ ?_; clear hK K)
          with_reducible refine wpStill_want ?hw (fun K hK => ?_)
          case hw => kernel_rfl
          (go_simp; refine hK _ ?_; clear hK K)
          with_reducible refine wpStill_skip ?hw (fun K hK => ?_)
          case hw => kernel_rfl
          (go_simp; refine hK _ ?_; clear hK K)
          with_reducible refine wpStill_skip ?hw (fun K hK => ?_)
          case hw => kernel_rfl
          (go_simp; refine hK _ ?_; clear hK K)
          with_reducible refine wpStill_skip ?hw (fun K hK => ?_)
          case hw => kernel_rfl
          (go_simp; refine hK _ ?_; clear hK K)
          with_reducible refine wpStill_skip ?hw (fun K hK => ?_)
          case hw => kernel_rfl
          (go_simp; refine hK _ ?_; clear hK K)
          with_reducible refine wpStill_skip ?hw (fun K hK => ?_)
          case hw => kernel_rfl
          (go_simp; refine hK _ ?_; clear hK K)
          with_reducible refine wpStill_skip ?hw (fun K hK => ?_)
          case hw => kernel_rfl
          (go_simp; refine hK _ ?_; clear hK K)
          with_reducible refine wpStill_skip ?hw (fun K hK => ?_)
          case hw => kernel_rfl
          (go_simp; refine hK _ ?_; clear hK K)
          with_reducible refine wpStill_skip ?hw (fun K hK => ?_)
          case hw => kernel_rfl
          (go_simp; refine hK _ ?_; clear hK K)
          with_reducible refine wpStill_skip ?hw (fun K hK => ?_)
          case hw => kernel_rfl
          (go_simp; refine hK _ ?_; clear hK K)
          with_reducible refine wpStill_skip ?hw (fun K hK => ?_)
          case hw => kernel_rfl
          (go_simp; refine hK _ ?_; clear hK K)
          with_reducible refine wpStill_skip ?hw (fun K hK => ?_)
          case hw => kernel_rfl
          (go_simp; refine hK _ ?_; clear hK K)
          with_reducible refine wpStill_skip ?hw (fun K hK => ?_)
          case hw => kernel_rfl
          (go_simp; refine hK _ ?_; clear hK K)
          with_reducible refine wpStill_skip ?hw (fun K hK => ?_)
          case hw => kernel_rfl
          (go_simp; refine hK _ ?_; clear hK K)
          with_reducible refine wpStill_skip ?hw (fun K hK => ?_)
          case hw => kernel_rfl
          (go_simp; refine hK _ ?_; clear hK K)
          with_reducible refine wpStill_skip ?hw (fun K hK => ?_)
          case hw => kernel_rfl
          (go_simp; refine hK _ ?_; clear hK K)
          with_reducible refine wpStill_skip ?hw (fun K hK => ?_)
          case hw => kernel_rfl
          (go_simp; refine hK _ ?_; clear hK K)
          with_reducible refine wpStill_want ?hw (fun K hK => ?_)
          case hw => kernel_rfl
          (go_simp; refine hK _ ?_; clear hK K)
          exact wpStill_nil rfl
        refine wpList_nil (OnlyNormal.mk ?_)
        go_wp2_with fail
        go_ret
        exact RetV.of ⟨false, rfl, (fun h => by cases h), hB.trans (hT3.mono hB.size)⟩

      · obtain rfl : m = 0 := by omega
        cases ag
        · by_cases hk0 : k = 0
          · subst hk0
            apply wpStages_last
            case hT => exact hT3
            case hn => exact Nat.le_refl _
            case hq =>
              intro w2 hT
              have c0 := UP.out w2 hT _ _ C0.out
              have c2 := UP.out w2 hT _ _ C2.out
              simp only [picked, List.filterMap_cons, List.filterMap_nil, List.getElem?_cons_zero, List.getElem?_cons_succ]
              with_reducible refine wpStill_want ?hw (fun K hK => ?_)
              case hw => kernel_rfl
              (go_simp; refine hK _ ?_; clear hK K)
              with_reducible refine wpStill_want ?hw (fun K hK => ?_)
              case hw => kernel_rfl
              (go_simp; refine hK _ ?_; clear hK K)
              with_reducible refine wpStill_want ?hw (fun K hK => ?_)
              case hw => kernel_rfl
              (go_simp; refine hK _ ?_; clear hK K)
              with_reducible refine wpStill_want ?hw (fun K hK => ?_)
              case hw => kernel_rfl
              (go_simp; refine hK _ ?_; clear hK K)
              with_reducible refine wpStill_want ?hw (fun K hK => ?_)
              case hw => kernel_rfl
              (go_simp; refine hK _ ?_; clear hK K)
              with_reducible refine wpStill_want ?hw (fun K hK => ?_)
              case hw => kernel_rfl
              (go_simp; refine hK _ ?_; clear hK K)
              with_reducible refine wpStill_want ?hw (fun K hK => ?_)
              case hw => kernel_rfl
              (go_simp; refine hK _ ?_; clear hK K)
              with_reducible refine wpStill_want ?hw (fun K hK => ?_)
              case hw => kernel_rfl
              (go_simp; refine hK _ ?_; clear hK K)
              with_reducible refine wpStill_want ?hw (fun K hK => ?_)
              case hw => kernel_rfl
              (go_simp; refine hK _ ?_; clear hK K)
              with_reducible refine wpStill_want ?hw (fun K hK => ?_)
              case hw => kernel_rfl
              (go_simp; refine hK _ ?_; clear hK K)
              with_reducible refine wpStill_want ?hw (fun K hK => ?_)
              case hw => kernel_rfl
              (go_simp; refine hK _ ?_; clear hK K)
              with_reducible refine wpStill_want ?hw (fun K hK => ?_)
              case hw => kernel_rfl
              (go_simp; refine hK _ ?_; clear hK K)
              with_reducible refine wpStill_skip ?hw (fun K hK => ?_)
              case hw => kernel_rfl
              (go_simp; refine hK _ ?_; clear hK K)
              with_reducible refine wpStill_skip ?hw (fun K hK => ?_)
              case hw => kernel_rfl
              (go_simp; refine hK _ ?_; clear hK K)
              with_reducible refine wpStill_skip ?hw (fun K hK => ?_)
              case hw => kernel_rfl
              (go_simp; refine hK _ ?_; clear hK K)
              with_reducible refine wpStill_skip ?hw (fun K hK => ?_)
              case hw => kernel_rfl
              (go_simp; refine hK _ ?_; clear hK K)
              with_reducible refine wpStill_skip ?hw (fun K hK => ?_)
              case hw => kernel_rfl
              (go_simp; refine hK _ ?_; clear hK K)
              with_reducible refine wpStill_skip ?hw (fun K hK => ?_)
              case hw => kernel_rfl
              (go_simp; refine hK _ ?_; clear hK K)
              with_reducible refine wpStill_skip ?hw (fun K hK => ?_)
              case hw => kernel_rfl
              (go_simp; refine hK _ ?_; clear hK K)
              with_reducible refine wpStill_skip ?hw (fun K hK => ?_)
              case hw => kernel_rfl
              (go_simp; refine hK _ ?_; clear hK K)
              with_reducible refine wpStill_skip ?hw (fun K hK => ?_)
              case hw => kernel_rfl
              (go_simp; refine hK _ ?_; clear hK K)
              with_reducible refine wpStill_skip ?hw (fun K hK => ?_)
              case hw => kernel_rfl
              (go_simp; refine hK _ ?_; clear hK K)
              with_reducible refine wpStill_skip ?hw (fun K hK => ?_)
              case hw => kernel_rfl
              (go_simp; refine hK _ ?_; clear hK K)
              with_reducible refine wpStill_skip ?hw (fun K hK => ?_)
              case hw => kernel_rfl
              (go_simp; refine hK _ ?_; clear hK K)
              with_reducible refine wpStill_want ?hw (fun K hK => ?_)
              case hw => kernel_rfl
              (go_simp; refine hK _ ?_; clear hK K)
              with_reducible refine wpStill_want ?hw (fun K hK => ?_)
              case hw => kernel_rfl
              (go_simp; refine hK _ ?_; clear hK K)
              exact wpStill_nil rfl
            refine wpList_nil (OnlyNormal.mk ?_)
            go_wp2_with fail
            exact ⟨⟨1, by omega, by go_num, hB.trans (hT3.mono hB.size), Lib.hid (by rw [List.take_add_one, HA.out]; simp [Rising])⟩, by simp [intOf]; omega⟩

          · have hk1 : (0 : Int) < (k : Int) := by omega
            obtain ⟨⟨pk, pv, pg⟩, hp⟩ : ∃ a, l[k - 1]? = some a := ⟨_, List.getElem?_eq_getElem (by rw [← HN.out]; omega)⟩
            obtain ⟨b', off', e', p0, p1, p2⟩ := HR.out (k - 1) _ hp
            cases e'
            have P0 := Lib.hid p0
            have HP := Lib.hid hp
            have hs1 : IntKind.i64.wrap ((k : Int) - 1) = (k : Int) - 1 := IntWalk.i64_in _ (by omega)
            have hs5 : (1 : Int) ≤ (k : Int) := by omega
            have hs6 : 0 < k := by omega
            have hs2 : (0 : Int) ≤ (k : Int) - 1 := by omega
            have hs3 : ((k : Int) - 1).toNat = k - 1 := by omega
            have hs4 : (k : Int) - 1 < (n : Int) := by omega
            clear p0 p1 p2 hp
            have hleq : ∀ t, binOp .leq t (.string ak) (.string pk) = pure (.bool (Op.bytesLess ak.toList pk.toList || ak.toList == pk.toList)) := fun t => by simp [binOp, Op.stringOp]
            cases hL : (Op.bytesLess ak.toList pk.toList || ak.toList == pk.toList)
            · have HL := Lib.hid hL
              apply wpStages_last
              case hT => exact hT3
              case hn => exact Nat.le_refl _
              case hq =>
                intro w2 hT
                have c0 := UP.out w2 hT _ _ C0.out
                have c2 := UP.out w2 hT _ _ C2.out
                have d0 := UP.out w2 hT _ _ P0.out
                simp only [picked, List.filterMap_cons, List.filterMap_nil, List.getElem?_cons_zero, List.getElem?_cons_succ]
                with_reducible refine wpStill_want ?hw (fun K hK => ?_)
                case hw => kernel_rfl
                (go_simp; refine hK _ ?_; clear hK K)
                with_reducible refine wpStill_want ?hw (fun K hK => ?_)
                case hw => kernel_rfl
                (go_simp; refine hK _ ?_; clear hK K)
                with_reducible refine wpStill_want ?hw (fun K hK => ?_)
                case hw => kernel_rfl
                (go_simp; refine hK _ ?_; clear hK K)
                with_reducible refine wpStill_want ?hw (fun K hK => ?_)
                case hw => kernel_rfl
                (go_simp; refine hK _ ?_; clear hK K)
                with_reducible refine wpStill_want ?hw (fun K hK => ?_)
                case hw => kernel_rfl
                (go_simp; refine hK _ ?_; clear hK K)
                with_reducible refine wpStill_want ?hw (fun K hK => ?_)
                case hw => kernel_rfl
                (go_simp; refine hK _ ?_; clear hK K)
                with_reducible refine wpStill_want ?hw (fun K hK => ?_)
                case hw => kernel_rfl
                (go_simp; refine hK _ ?_; clear hK K)
                with_reducible refine wpStill_want ?hw (fun K hK => ?_)
                case hw => kernel_rfl
                (go_simp; refine hK _ ?_; clear hK K)
                with_reducible refine wpStill_want ?hw (fun K hK => ?_)
                case hw => kernel_rfl
                (go_simp; refine hK _ ?_; clear hK K)
                with_reducible refine wpStill_want ?hw (fun K hK => ?_)
                case hw => kernel_rfl
                (go_simp; refine hK _ ?_; clear hK K)
                with_reducible refine wpStill_want ?hw (fun K hK => ?_)
                case hw => kernel_rfl
                (go_simp; refine hK _ ?_; clear hK K)
                with_reducible refine wpStill_want ?hw (fun K hK => ?_)
                case hw => kernel_rfl
                (go_simp; refine hK _ ?_; clear hK K)
                with_reducible refine wpStill_want ?hw (fun K hK => ?_)
                case hw => kernel_rfl
                (go_simp; refine hK _ ?_; clear hK K)
                with_reducible refine wpStill_want ?hw (fun K hK => ?_)
                case hw => kernel_rfl
                (go_simp; refine hK _ ?_; clear hK K)
                with_reducible refine wpStill_want ?hw (fun K hK => ?_)
                case hw => kernel_rfl
                (go_simp; refine hK _ ?_; clear hK K)
                with_reducible refine wpStill_want ?hw (fun K hK => ?_)
                case hw => kernel_rfl
                (go_simp; refine hK _ ?_; clear hK K)
                with_reducible refine wpStill_want ?hw (fun K hK => ?_)
                case hw => kernel_rfl
                (go_simp; refine hK _ ?_; clear hK K)
                with_reducible refine wpStill_want ?hw (fun K hK => ?_)
                case hw => kernel_rfl
                (go_simp; refine hK _ ?_; clear hK K)
                with_reducible refine wpStill_want ?hw (fun K hK => ?_)
                case hw => kernel_rfl
                (go_simp; refine hK _ ?_; clear hK K)
                with_reducible refine wpStill_want ?hw (fun K hK => ?_)
                case hw => kernel_rfl
                (go_simp; refine hK _ ?_; clear hK K)
                with_reducible refine wpStill_want ?hw (fun K hK => ?_)
                case hw => kernel_rfl
                (go_simp; refine hK _ ?_; clear hK K)
                with_reducible refine wpStill_want ?hw (fun K hK => ?_)
                case hw => kernel_rfl
                (go_simp; refine hK _ ?_; clear hK K)
                with_reducible refine wpStill_want ?hw (fun K hK => ?_)
                case hw => kernel_rfl
                (go_simp; refine hK _ ?_; clear hK K)
                with_reducible refine wpStill_want ?hw (fun K hK => ?_)
                case hw => kernel_rfl
                (go_simp; refine hK _ ?_; clear hK K)
                with_reducible refine wpStill_want ?hw (fun K hK => ?_)
                case hw => kernel_rfl
                (go_simp; refine hK _ ?_; clear hK K)
                with_reducible refine wpStill_want ?hw (fun K hK => ?_)
                case hw => kernel_rfl
                (go_simp; refine hK _ ?_; clear hK K)
                exact wpStill_nil rfl
              refine wpList_nil (OnlyNormal.mk ?_)
              clear hs1 hs2 hs3 hs4 hs5 hleq hL
              have hrel : Rising (l.take (k + 1)) := by
                rw [List.take_add_one, HA.out]
                refine rising_append HRK.out (by simp [Rising]) fun x hx y hy => ?_
                obtain rfl : y = ⟨ak, av, false⟩ := by simpa using hy
                obtain ⟨j, hj⟩ := List.getElem?_of_mem hx
                have hjk : j < k := by
                  have := (List.getElem?_eq_some_iff.1 hj).1
                  rw [List.length_take] at this
                  omega
                rw [List.getElem?_take_of_lt hjk] at hj
                have hlt2 : bl pk.toList ak.toList = true := by
                  have h := HL.out
                  rw [Bool.or_eq_false_iff] at h
                  rcases bl_false h.1 with h3 | h3
                  · rw [h3] at h; simp at h
                  · exact h3
                by_cases hjp : j = k - 1
                · subst hjp
                  rw [HP.out] at hj
                  cases hj
                  exact hlt2
                · have h1 : (l.take k)[k - 1]? = some ⟨pk, pv, pg⟩ := by rw [List.getElem?_take_of_lt (by omega)]; exact HP.out
                  have h2 : (l.take k)[j]? = some x := by rw [List.getElem?_take_of_lt hjk]; exact hj
                  exact bl_trans _ _ _ (rising_get HRK.out (by omega : j < k - 1) h2 h1) hlt2
              have HREL := Lib.hid hrel
              clear hrel
              go_wp2_with fail
              exact ⟨⟨k + 1, by omega, by go_num, hB.trans (hT3.mono hB.size), HREL⟩, by simp [intOf]; omega⟩

            · skip
              apply wpStages_last
              case hT => exact hT3
              case hn => exact Nat.le_refl _
              case hq =>
                intro w2 hT
                have c0 := UP.out w2 hT _ _ C0.out
                have c2 := UP.out w2 hT _ _ C2.out
                have d0 := UP.out w2 hT _ _ P0.out
                simp only [picked, List.filterMap_cons, List.filterMap_nil, List.getElem?_cons_zero, List.getElem?_cons_succ]
                with_reducible refine wpStill_want ?hw (fun K hK => ?_)
                case hw => kernel_rfl
                (go_simp; refine hK _ ?_; clear hK K)
                with_reducible refine wpStill_want ?hw (fun K hK => ?_)
                case hw => kernel_rfl
                (go_simp; refine hK _ ?_; clear hK K)
                with_reducible refine wpStill_want ?hw (fun K hK => ?_)
                case hw => kernel_rfl
                (go_simp; refine hK _ ?_; clear hK K)
                with_reducible refine wpStill_want ?hw (fun K hK => ?_)
                case hw => kernel_rfl
                (go_simp; refine hK _ ?_; clear hK K)
                with_reducible refine wpStill_want ?hw (fun K hK => ?_)
                case hw => kernel_rfl
                (go_simp; refine hK _ ?_; clear hK K)
                with_reducible refine wpStill_want ?hw (fun K hK => ?_)
                case hw => kernel_rfl
                (go_simp; refine hK _ ?_; clear hK K)
                with_reducible refine wpStill_want ?hw (fun K hK => ?_)
                case hw => kernel_rfl
                (go_simp; refine hK _ ?_; clear hK K)
                with_reducible refine wpStill_want ?hw (fun K hK => ?_)
                case hw => kernel_rfl
                (go_simp; refine hK _ ?_; clear hK K)
                with_reducible refine wpStill_want ?hw (fun K hK => ?_)
                case hw => kernel_rfl
                (go_simp; refine hK _ ?_; clear hK K)
                with_reducible refine wpStill_want ?hw (fun K hK => ?_)
                case hw => kernel_rfl
                (go_simp; refine hK _ ?_; clear hK K)
                with_reducible refine wpStill_want ?hw (fun K hK => ?_)
                case hw => kernel_rfl
                (go_simp; refine hK _ ?_; clear hK K)
                with_reducible refine wpStill_want ?hw (fun K hK => ?_)
                case hw => kernel_rfl
                (go_simp; refine hK _ ?_; clear hK K)
                with_reducible refine wpStill_want ?hw (fun K hK => ?_)
                case hw => kernel_rfl
                (go_simp; refine hK _ ?_; clear hK K)
                with_reducible refine wpStill_want ?hw (fun K hK => ?_)
                case hw => kernel_rfl
                (go_simp; refine hK _ ?_; clear hK K)
                with_reducible refine wpStill_want ?hw (fun K hK => ?_)
                case hw => kernel_rfl
                (go_simp; refine hK _ ?_; clear hK K)
                with_reducible refine wpStill_want ?hw (fun K hK => ?_)
                case hw => kernel_rfl
                (go_simp; refine hK _ ?_; clear hK K)
                with_reducible refine wpStill_want ?hw (fun K hK => ?_)
                case hw => kernel_rfl
                (go_simp; refine hK _ ?_; clear hK K)
                with_reducible refine wpStill_want ?hw (fun K hK => ?_)
                case hw => kernel_rfl
                (go_simp; refine hK _ ?_; clear hK K)
                with_reducible refine wpStill_want ?hw (fun K hK => ?_)
                case hw => kernel_rfl
                (go_simp; refine hK _ ?_; clear hK K)
                with_reducible refine wpStill_want ?hw (fun K hK => ?_)
                case hw => kernel_rfl
                (go_simp; refine hK _ ?_; clear hK K)
                with_reducible refine wpStill_want ?hw (fun K hK => ?_)
                case hw => kernel_rfl
                (go_simp; refine hK _ ?_; clear hK K)
                with_reducible refine wpStill_want ?hw (fun K hK => ?_)
                case hw => kernel_rfl
                (go_simp; refine hK _ ?_; clear hK K)
                with_reducible refine wpStill_want ?hw (fun K hK => ?_)
                case hw => kernel_rfl
                (go_simp; refine hK _ ?_; clear hK K)
                with_reducible refine wpStill_want ?hw (fun K hK => ?_)
                case hw => kernel_rfl
                (go_simp; refine hK _ ?_; clear hK K)
                with_reducible refine wpStill_want ?hw (fun K hK => ?_)
                case hw => kernel_rfl
                (go_simp; refine hK _ ?_; clear hK K)
                with_reducible refine wpStill_want ?hw (fun K hK => ?_)
                case hw => kernel_rfl
                (go_simp; refine hK _ ?_; clear hK K)
                exact wpStill_nil rfl
              refine wpList_nil (OnlyNormal.mk ?_)
              clear hs1 hs2 hs3 hs4 hs5 hleq hL
              go_wp2_with fail
              go_ret
              exact RetV.of ⟨false, rfl, (fun h => by cases h), hB.trans (hT3.mono hB.size)⟩

        · skip
          apply wpStages_last
          case hT => exact hT3
          case hn => exact Nat.le_refl _
          case hq =>
            intro w2 hT
            have c0 := UP.out w2 hT _ _ C0.out
            have c2 := UP.out w2 hT _ _ C2.out
            simp only [picked, List.filterMap_cons, List.filterMap_nil, List.getElem?_cons_zero, List.getElem?_cons_succ]
            with_reducible refine wpStill_want ?hw (fun K hK => ?_)
            case hw => kernel_rfl
            (go_simp; refine hK _ ?_; clear hK K)
            with_reducible refine wpStill_want ?hw (fun K hK => ?_)
            case hw => kernel_rfl
            (go_simp; refine hK _ ?_; clear hK K)
            with_reducible refine wpStill_want ?hw (fun K hK => ?_)
            case hw => kernel_rfl
            (go_simp; refine hK _ ?_; clear hK K)
            with_reducible refine wpStill_want ?hw (fun K hK => ?_)
            case hw => kernel_rfl
            (go_simp; refine hK _ ?_; clear hK K)
            with_reducible refine wpStill_want ?hw (fun K hK => ?_)
            case hw => kernel_rfl
            (go_simp; refine hK _ ?_; clear hK K)
            with_reducible refine wpStill_want ?hw (fun K hK => ?_)
            case hw => kernel_rfl
            (go_simp; refine hK _ ?_; clear hK K)
            with_reducible refine wpStill_want ?hw (fun K hK => ?_)
            case hw => kernel_rfl
            (go_simp; refine hK _ ?_; clear hK K)
            with_reducible refine wpStill_want ?hw (fun K hK => ?_)
            case hw => kernel_rfl
            (go_simp; refine hK _ ?_; clear hK K)
            with_reducible refine wpStill_want ?hw (fun K hK => ?_)
            case hw => kernel_rfl
            (go_simp; refine hK _ ?_; clear hK K)
            with_reducible refine wpStill_skip ?hw (fun K hK => ?_)
            case hw => kernel_rfl
            (go_simp; refine hK _ ?_; clear hK K)
            with_reducible refine wpStill_skip ?hw (fun K hK => ?_)
            case hw => kernel_rfl
            (go_simp; refine hK _ ?_; clear hK K)
            with_reducible refine wpStill_skip ?hw (fun K hK => ?_)
            case hw => kernel_rfl
            (go_simp; refine hK _ ?_; clear hK K)
            with_reducible refine wpStill_skip ?hw (fun K hK => ?_)
            case hw => kernel_rfl
            (go_simp; refine hK _ ?_; clear hK K)
            with_reducible refine wpStill_skip ?hw (fun K hK => ?_)
            case hw => kernel_rfl
            (go_simp; refine hK _ ?_; clear hK K)
            with_reducible refine wpStill_skip ?hw (fun K hK => ?_)
            case hw => kernel_rfl
            (go_simp; refine hK _ ?_; clear hK K)
            with_reducible refine wpStill_skip ?hw (fun K hK => ?_)
            case hw => kernel_rfl
            (go_simp; refine hK _ ?_; clear hK K)
            with_reducible refine wpStill_skip ?hw (fun K hK => ?_)
            case hw => kernel_rfl
            (go_simp; refine hK _ ?_; clear hK K)
            with_reducible refine wpStill_skip ?hw (fun K hK => ?_)
            case hw => kernel_rfl
            (go_simp; refine hK _ ?_; clear hK K)
            with_reducible refine wpStill_skip ?hw (fun K hK => ?_)
            case hw => kernel_rfl
            (go_simp; refine hK _ ?_; clear hK K)
            with_reducible refine wpStill_skip ?hw (fun K hK => ?_)
            case hw => kernel_rfl
            (go_simp; refine hK _ ?_; clear hK K)
            with_reducible refine wpStill_skip ?hw (fun K hK => ?_)
            case hw => kernel_rfl
            (go_simp; refine hK _ ?_; clear hK K)
            with_reducible refine wpStill_skip ?hw (fun K hK => ?_)
            case hw => kernel_rfl
            (go_simp; refine hK _ ?_; clear hK K)
            with_reducible refine wpStill_skip ?hw (fun K hK => ?_)
            case hw => kernel_rfl
            (go_simp; refine hK _ ?_; clear hK K)
            with_reducible refine wpStill_skip ?hw (fun K hK => ?_)
            case hw => kernel_rfl
            (go_simp; refine hK _ ?_; clear hK K)
            with_reducible refine wpStill_skip ?hw (fun K hK => ?_)
            case hw => kernel_rfl
            (go_simp; refine hK _ ?_; clear hK K)
            with_reducible refine wpStill_want ?hw (fun K hK => ?_)
            case hw => kernel_rfl
            (go_simp; refine hK _ ?_; clear hK K)
            exact wpStill_nil rfl
          refine wpList_nil (OnlyNormal.mk ?_)
          go_wp2_with fail
          go_ret
          exact RetV.of ⟨false, rfl, (fun h => by cases h), hB.trans (hT3.mono hB.size)⟩

    · obtain rfl : k = n := by omega
      have hr := HRK.out
      rw [List.take_of_length_le (by rw [← HN.out]; exact Nat.le_refl _)] at hr
      have HRR := Lib.hid hr
      clear hr
      go_wp2_with fail
      go_ret
      exact RetV.of ⟨true, rfl, fun _ => HRR.out, hB⟩

end Go.Proofs.Ytkapmpngglibjaa
