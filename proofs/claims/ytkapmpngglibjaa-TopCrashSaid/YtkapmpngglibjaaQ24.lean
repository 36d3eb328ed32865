/- Several texts in one: what each begins with says what it shows. Conditions: each law's own premises. -/
import Derived.Test.YtkapmpngglibjaaQ23
import Derived.Test.YtkapmpngglibjaaQ02

/- A head is read off a sector. Conditions: each contract's own premises. -/
namespace Go.Proofs.Ytkapmpngglibjaa
open Go Go.RowKit

def headOfM (s : ByteArray) : HM := if byteAt s 0 ≠ 72 ∨ 1 < unfourN s 5 ∨ 6160 < unfourN s 9 ∨ unfourN s 13 < 1 then ⟨0, 0, 0, 0⟩ else ⟨unfourN s 1, unfourN s 5, unfourN s 9, unfourN s 13⟩

theorem byteAt_extract (s : ByteArray) (a b i : Nat) (h : a + i < b) : byteAt (s.extract a b) i = byteAt s (a + i) := by
  rw [byteAt_list, byteAt_list, extract_list, List.getElem?_take, if_pos (by omega), List.getElem?_drop]

theorem unfour_extract (s : ByteArray) (a : Nat) : unfourN (s.extract a (a + 4)) 0 = unfourN s a := by
  unfold unfourN
  rw [byteAt_extract _ _ _ _ (by omega), byteAt_extract _ _ _ _ (by omega), byteAt_extract _ _ _ _ (by omega), byteAt_extract _ _ _ _ (by omega)]
  rfl

theorem unfour_lt (s : ByteArray) (a : Nat) : unfourN s a < 4294967296 := by
  unfold unfourN
  have h0 := byteAt_lt s a
  have h1 := byteAt_lt s (a + 1)
  have h2 := byteAt_lt s (a + 2)
  have h3 := byteAt_lt s (a + 3)
  omega

theorem set4 {w : World} {b : Nat} {a0 a1 a2 a3 : Value} {T : TypeId} (h : w.heap[b]? = some (.cells #[a0, a1, a2, a3] T (0, 0))) (x0 x1 x2 x3 : Value) :
    ((((w.setCell ⟨b, 0, none⟩ x0).setCell ⟨b, 1, none⟩ x1).setCell ⟨b, 2, none⟩ x2).setCell ⟨b, 3, none⟩ x3).heap[b]? = some (.cells #[x0, x1, x2, x3] T (0, 0)) :=
  heap_set_same 3 x3 (heap_set_same 2 x2 (heap_set_same 1 x1 (heap_set_same 0 x0 h)))

theorem below4 {B : Nat} {w0 w : World} (h : Below B w0 w) {b : Nat} (hb : B ≤ b) (x0 x1 x2 x3 : Value) :
    Below B w0 ((((w.setCell ⟨b, 0, none⟩ x0).setCell ⟨b, 1, none⟩ x1).setCell ⟨b, 2, none⟩ x2).setCell ⟨b, 3, none⟩ x3) :=
  (((h.setCell (p := ⟨b, 0, none⟩) hb x0).setCell (p := ⟨b, 1, none⟩) hb x1).setCell (p := ⟨b, 2, none⟩) hb x2).setCell (p := ⟨b, 3, none⟩) hb x3

set_option maxHeartbeats 4000000 in
set_option maxRecDepth 100000 in
theorem headOf_any (s : ByteArray) (w : World) (hs : s.size = 140) : Calls Try.prog 89 #[.string s] w (Ret (headOfM s).v fun w' => Below w.heap.size w w') := by
  have hU : ∀ a, a + 4 ≤ 140 → ∀ w, Calls Try.prog 105 #[.string (s.extract a (a + 4))] w (Ret (.int .i64 (unfourN s a : Int)) fun w' => Below w.heap.size w w') := fun a ha w => by
    have h := unfour_any (s.extract a (a + 4)) w (by rw [ByteArray.size_extract]; omega)
    rwa [unfour_extract] at h
  have U1 := Lib.hid (hU 1 (by decide))
  have U5 := Lib.hid (hU 5 (by decide))
  have U9 := Lib.hid (hU 9 (by decide))
  have U13 := Lib.hid (hU 13 (by decide))
  have LT := Lib.hid (fun (_ : Unit) => And.intro (unfour_lt s 1) (And.intro (unfour_lt s 5) (And.intro (unfour_lt s 9) (unfour_lt s 13))))
  have FIN := Lib.hid (fun (_ : Unit) => show headOfM s = if byteAt s 0 ≠ 72 ∨ 1 < unfourN s 5 ∨ 6160 < unfourN s 9 ∨ unfourN s 13 < 1 then ⟨0, 0, 0, 0⟩ else ⟨unfourN s 1, unfourN s 5, unfourN s 9, unfourN s 13⟩ from rfl)
  clear hU
  generalize unfourN s 1 = e at *
  generalize unfourN s 5 = sd at *
  generalize unfourN s 9 = z at *
  generalize unfourN s 13 = f at *
  have s0 : (0 : Int) < (s.size : Int) := by omega
  have t0 : 0 < s.size := by omega
  have x0 := byteAt_eq s 0 t0
  have s17 : (17 : Int) ≤ (s.size : Int) := by omega
  have s5 : (5 : Int) ≤ (s.size : Int) := by omega
  have s9 : (9 : Int) ≤ (s.size : Int) := by omega
  have s13 : (13 : Int) ≤ (s.size : Int) := by omega
  clear hs
  generalize byteAt s 0 = b0 at *
  go_enter Try.func89, Try.ntmps89
  go_wp2_with fail
  have HB1 := Lib.hid ((Below.refl w.heap.size w).alloc (Nat.le_refl _) (.cells #[.int .i64 0, .int .i64 0, .int .i64 0, .int .i64 0] 143))
  have HBLK := Lib.hid (heap_alloc_new w (.cells #[.int .i64 0, .int .i64 0, .int .i64 0, .int .i64 0] 143))
  generalize w.alloc (.cells #[.int .i64 0, .int .i64 0, .int .i64 0, .int .i64 0] 143) = w1 at *
  refine wp_region_tree (fun w2 => Below w1.heap.size w1 w2) 37 [0, 3, 6, 9, 1, 4, 7, 10] (.fork 2 (.fork 5 (.fork 8 (.fork 11 (.done [([12], [13], true), ([], [14], false)]) 13 (.done [([], [11], true), ([12], [14], false)])) 13 (.done [([], [8], true), ([], [11], true), ([12], [14], false)]))
    13 (.done [([], [5], true), ([], [8], true), ([], [11], true), ([12], [14], false)])) 13 (.done [([], [2], true), ([], [5], true), ([], [8], true), ([], [11], true), ([12], [14], false)])) (by kernel_rfl) (by kernel_rfl) ?_
  apply wpTree_mk
  case hT => exact (Below.refl _ _).drew
  case hn => exact Nat.le_refl _
  case hq =>
    intro w2 hT
    simp only [picked, List.filterMap_cons, List.filterMap_nil, List.getElem?_cons_zero, List.getElem?_cons_succ]
    repeat still_step
    exact wpStill_nil rfl
  have hT0 : Below w1.heap.size w1 w1.drew := (Below.refl _ _).drew
  have HT0 := Lib.hid hT0
  clear hT0
  generalize w1.drew = v0 at *
  refine ⟨?_, ?_⟩
  · simp only [picked, List.filterMap_cons, List.filterMap_nil, List.getElem?_cons_zero, List.getElem?_cons_succ]
    go_wp2_with fail
    refine (U1.out _).mono ?_
    rintro _ v1 ⟨rfl, hB⟩
    have HT1 := Lib.hid (HT0.out.trans (hB.mono HT0.out.size))
    clear hB
    go_wp2_with fail
    refine OnlyNormal.mk ⟨HT1.out, ?_⟩
    refine ⟨?_, ?_⟩
    · simp only [picked, List.filterMap_cons, List.filterMap_nil, List.getElem?_cons_zero, List.getElem?_cons_succ]
      go_wp2_with fail
      refine (U5.out _).mono ?_
      rintro _ v2 ⟨rfl, hB⟩
      have HT2 := Lib.hid (HT1.out.trans (hB.mono HT1.out.size))
      clear hB
      go_wp2_with fail
      refine OnlyNormal.mk ⟨HT2.out, ?_⟩
      refine ⟨?_, ?_⟩
      · simp only [picked, List.filterMap_cons, List.filterMap_nil, List.getElem?_cons_zero, List.getElem?_cons_succ]
        go_wp2_with fail
        refine (U9.out _).mono ?_
        rintro _ v3 ⟨rfl, hB⟩
        have HT3 := Lib.hid (HT2.out.trans (hB.mono HT2.out.size))
        clear hB
        go_wp2_with fail
        refine OnlyNormal.mk ⟨HT3.out, ?_⟩
        refine ⟨?_, ?_⟩
        · simp only [picked, List.filterMap_cons, List.filterMap_nil, List.getElem?_cons_zero, List.getElem?_cons_succ]
          go_wp2_with fail
          refine (U13.out _).mono ?_
          rintro _ v4 ⟨rfl, hB⟩
          have HT4 := Lib.hid (HT3.out.trans (hB.mono HT3.out.size))
          clear hB
          go_wp2_with fail
          refine OnlyNormal.mk ⟨HT4.out, ?_⟩
          show wpStages _ _ _ _ _ _ _ _
          apply wpStages_keep
          case hT => exact HT4.out
          case hn => exact Nat.le_refl _
          case hq =>
            intro w2 hT
            simp only [picked, List.filterMap_cons, List.filterMap_nil, List.getElem?_cons_zero, List.getElem?_cons_succ]
            repeat still_step
            exact wpStill_nil rfl
          simp only [picked, List.filterMap_cons, List.filterMap_nil, List.getElem?_cons_zero, List.getElem?_cons_succ]
          go_wp2_with fail
          have HBX := Lib.hid (heap_alloc_new v4 (.cells #[.int .i64 0, .int .i64 0, .int .i64 0, .int .i64 0] 143))
          have HSX := Lib.hid HT4.out.size
          have HT5 := Lib.hid (HT4.out.alloc HT4.out.size (.cells #[.int .i64 0, .int .i64 0, .int .i64 0, .int .i64 0] 143))
          generalize hv5 : v4.alloc (.cells #[.int .i64 0, .int .i64 0, .int .i64 0, .int .i64 0] 143) = v5 at *
          clear hv5
          generalize hbx : v4.heap.size = bx at *
          clear hbx
          refine OnlyNormal.mk ⟨HT5.out, ?_⟩
          apply wpStages_seq
          simp only [picked, List.filterMap_cons, List.filterMap_nil, List.getElem?_cons_zero, List.getElem?_cons_succ]
          have k0 := cell_of HBX.out 0
          have k1 := cell_of HBX.out 1
          have k2 := cell_of HBX.out 2
          have k3 := cell_of HBX.out 3
          have z0 := frozen_of HBX.out
          simp only [List.getElem?_toArray, List.getElem?_cons_zero, List.getElem?_cons_succ] at k0 k1 k2 k3
          go_wp2_with fail
          refine OnlyNormal.mk (wpStages_nil ?_)
          have HN := Lib.hid (set4 HBX.out (.int .i64 (e : Int)) (.int .i64 (sd : Int)) (.int .i64 (z : Int)) (.int .i64 (f : Int)))
          have HT6 := Lib.hid (below4 HT5.out HSX.out (.int .i64 (e : Int)) (.int .i64 (sd : Int)) (.int .i64 (z : Int)) (.int .i64 (f : Int)))
          clear k0 k1 k2 k3 z0
          generalize (((v5.setCell ⟨bx, 0, none⟩ (.int .i64 (e : Int))).setCell ⟨bx, 1, none⟩ (.int .i64 (sd : Int))).setCell ⟨bx, 2, none⟩ (.int .i64 (z : Int))).setCell ⟨bx, 3, none⟩ (.int .i64 (f : Int)) = v6 at *
          have k0 := cell_of HN.out 0
          have k1 := cell_of HN.out 1
          have k2 := cell_of HN.out 2
          have k3 := cell_of HN.out 3
          simp only [List.getElem?_toArray, List.getElem?_cons_zero, List.getElem?_cons_succ] at k0 k1 k2 k3
          have HY := Lib.hid ((HT6.out.block _ (lt_of_heap HBLK.out)).trans HBLK.out)
          have y0 := cell_of HY.out 0
          have y1 := cell_of HY.out 1
          have y2 := cell_of HY.out 2
          have y3 := cell_of HY.out 3
          simp only [List.getElem?_toArray, List.getElem?_cons_zero, List.getElem?_cons_succ] at y0 y1 y2 y3
          have zy := frozen_of HY.out
          have zk := frozen_of HN.out
          by_cases q1 : b0 = 72
          case neg =>
            have q1' : ¬ (b0 : Int) = 72 := by omega
            have q1b : ((b0 : Int) == 72) = false := by simpa using q1'
            go_wp2_with fail
            have HR := Lib.hid (set4 HY.out (.int .i64 0) (.int .i64 0) (.int .i64 0) (.int .i64 0))
            have HQ := Lib.hid (HB1.out.trans (below4 (B := w.heap.size) (HT6.out.mono (Nat.le_of_lt (lt_of_heap HBLK.out))) (Nat.le_refl _) (.int .i64 0) (.int .i64 0) (.int .i64 0) (.int .i64 0)))
            have r0 := cell_of HR.out 0
            have r1 := cell_of HR.out 1
            have r2 := cell_of HR.out 2
            have r3 := cell_of HR.out 3
            simp only [List.getElem?_toArray, List.getElem?_cons_zero, List.getElem?_cons_succ] at r0 r1 r2 r3
            clear y0 y1 y2 y3 k0 k1 k2 k3 zy zk
            generalize (((v6.setCell ⟨w.heap.size, 0, none⟩ (.int .i64 0)).setCell ⟨w.heap.size, 1, none⟩ (.int .i64 0)).setCell ⟨w.heap.size, 2, none⟩ (.int .i64 0)).setCell ⟨w.heap.size, 3, none⟩ (.int .i64 0) = v7 at *
            refine bodyPost_ret (by simp [results, Try.results89, go_sem, r0, r1, r2, r3]; try rfl) rfl ?_
            exact Ret.of (by rw [FIN.out (), if_pos (.inl q1)]; rfl) HQ.out
          subst q1
          by_cases q2 : 1 < sd
          case pos =>
            have q2' : (1 : Int) < (sd : Int) := by omega
            go_wp2_with fail
            have HR := Lib.hid (set4 HY.out (.int .i64 0) (.int .i64 0) (.int .i64 0) (.int .i64 0))
            have HQ := Lib.hid (HB1.out.trans (below4 (B := w.heap.size) (HT6.out.mono (Nat.le_of_lt (lt_of_heap HBLK.out))) (Nat.le_refl _) (.int .i64 0) (.int .i64 0) (.int .i64 0) (.int .i64 0)))
            have r0 := cell_of HR.out 0
            have r1 := cell_of HR.out 1
            have r2 := cell_of HR.out 2
            have r3 := cell_of HR.out 3
            simp only [List.getElem?_toArray, List.getElem?_cons_zero, List.getElem?_cons_succ] at r0 r1 r2 r3
            clear y0 y1 y2 y3 k0 k1 k2 k3 zy zk
            generalize (((v6.setCell ⟨w.heap.size, 0, none⟩ (.int .i64 0)).setCell ⟨w.heap.size, 1, none⟩ (.int .i64 0)).setCell ⟨w.heap.size, 2, none⟩ (.int .i64 0)).setCell ⟨w.heap.size, 3, none⟩ (.int .i64 0) = v7 at *
            refine bodyPost_ret (by simp [results, Try.results89, go_sem, r0, r1, r2, r3]; try rfl) rfl ?_
            exact Ret.of (by rw [FIN.out (), if_pos (.inr (.inl q2))]; rfl) HQ.out
          have q2' : (sd : Int) ≤ 1 := by omega
          by_cases q3 : 6160 < z
          case pos =>
            have q3' : (6160 : Int) < (z : Int) := by omega
            go_wp2_with fail
            have HR := Lib.hid (set4 HY.out (.int .i64 0) (.int .i64 0) (.int .i64 0) (.int .i64 0))
            have HQ := Lib.hid (HB1.out.trans (below4 (B := w.heap.size) (HT6.out.mono (Nat.le_of_lt (lt_of_heap HBLK.out))) (Nat.le_refl _) (.int .i64 0) (.int .i64 0) (.int .i64 0) (.int .i64 0)))
            have r0 := cell_of HR.out 0
            have r1 := cell_of HR.out 1
            have r2 := cell_of HR.out 2
            have r3 := cell_of HR.out 3
            simp only [List.getElem?_toArray, List.getElem?_cons_zero, List.getElem?_cons_succ] at r0 r1 r2 r3
            clear y0 y1 y2 y3 k0 k1 k2 k3 zy zk
            generalize (((v6.setCell ⟨w.heap.size, 0, none⟩ (.int .i64 0)).setCell ⟨w.heap.size, 1, none⟩ (.int .i64 0)).setCell ⟨w.heap.size, 2, none⟩ (.int .i64 0)).setCell ⟨w.heap.size, 3, none⟩ (.int .i64 0) = v7 at *
            refine bodyPost_ret (by simp [results, Try.results89, go_sem, r0, r1, r2, r3]; try rfl) rfl ?_
            exact Ret.of (by rw [FIN.out (), if_pos (.inr (.inr (.inl q3)))]; rfl) HQ.out
          have q3' : (z : Int) ≤ 6160 := by omega
          by_cases q4 : f < 1
          case pos =>
            have q4' : (f : Int) < 1 := by omega
            go_wp2_with fail
            have HR := Lib.hid (set4 HY.out (.int .i64 0) (.int .i64 0) (.int .i64 0) (.int .i64 0))
            have HQ := Lib.hid (HB1.out.trans (below4 (B := w.heap.size) (HT6.out.mono (Nat.le_of_lt (lt_of_heap HBLK.out))) (Nat.le_refl _) (.int .i64 0) (.int .i64 0) (.int .i64 0) (.int .i64 0)))
            have r0 := cell_of HR.out 0
            have r1 := cell_of HR.out 1
            have r2 := cell_of HR.out 2
            have r3 := cell_of HR.out 3
            simp only [List.getElem?_toArray, List.getElem?_cons_zero, List.getElem?_cons_succ] at r0 r1 r2 r3
            clear y0 y1 y2 y3 k0 k1 k2 k3 zy zk
            generalize (((v6.setCell ⟨w.heap.size, 0, none⟩ (.int .i64 0)).setCell ⟨w.heap.size, 1, none⟩ (.int .i64 0)).setCell ⟨w.heap.size, 2, none⟩ (.int .i64 0)).setCell ⟨w.heap.size, 3, none⟩ (.int .i64 0) = v7 at *
            refine bodyPost_ret (by simp [results, Try.results89, go_sem, r0, r1, r2, r3]; try rfl) rfl ?_
            exact Ret.of (by rw [FIN.out (), if_pos (.inr (.inr (.inr q4)))]; rfl) HQ.out
          have q4' : (1 : Int) ≤ (f : Int) := by omega
          go_wp2_with fail
          have HR := Lib.hid (set4 HY.out (.int .i64 (e : Int)) (.int .i64 (sd : Int)) (.int .i64 (z : Int)) (.int .i64 (f : Int)))
          have HQ := Lib.hid (HB1.out.trans (below4 (B := w.heap.size) (HT6.out.mono (Nat.le_of_lt (lt_of_heap HBLK.out))) (Nat.le_refl _) (.int .i64 (e : Int)) (.int .i64 (sd : Int)) (.int .i64 (z : Int)) (.int .i64 (f : Int))))
          have r0 := cell_of HR.out 0
          have r1 := cell_of HR.out 1
          have r2 := cell_of HR.out 2
          have r3 := cell_of HR.out 3
          simp only [List.getElem?_toArray, List.getElem?_cons_zero, List.getElem?_cons_succ] at r0 r1 r2 r3
          clear y0 y1 y2 y3 k0 k1 k2 k3 zy zk
          generalize (((v6.setCell ⟨w.heap.size, 0, none⟩ (.int .i64 (e : Int))).setCell ⟨w.heap.size, 1, none⟩ (.int .i64 (sd : Int))).setCell ⟨w.heap.size, 2, none⟩ (.int .i64 (z : Int))).setCell ⟨w.heap.size, 3, none⟩ (.int .i64 (f : Int)) = v7 at *
          refine bodyPost_ret (by simp [results, Try.results89, go_sem, r0, r1, r2, r3]; try rfl) rfl ?_
          exact Ret.of (by rw [FIN.out (), if_neg (by rintro (h | h | h | h) <;> omega)]; rfl) HQ.out
        · simp only [picked, List.filterMap_cons, List.filterMap_nil, List.getElem?_cons_zero, List.getElem?_cons_succ]
          go_wp2_with fail
          have HBX := Lib.hid (heap_alloc_new v3 (.cells #[.int .i64 0, .int .i64 0, .int .i64 0, .int .i64 0] 143))
          have HSX := Lib.hid HT3.out.size
          have HT4 := Lib.hid (HT3.out.alloc HT3.out.size (.cells #[.int .i64 0, .int .i64 0, .int .i64 0, .int .i64 0] 143))
          generalize hv4 : v3.alloc (.cells #[.int .i64 0, .int .i64 0, .int .i64 0, .int .i64 0] 143) = v4 at *
          clear hv4
          generalize hbx : v3.heap.size = bx at *
          clear hbx
          refine OnlyNormal.mk ⟨HT4.out, ?_⟩
          show wpStages _ _ _ _ _ _ _ _
          apply wpStages_seqkeep
          simp only [picked, List.filterMap_cons, List.filterMap_nil, List.getElem?_cons_zero, List.getElem?_cons_succ]
          go_wp2_with fail
          refine (U13.out _).mono ?_
          rintro _ v5 ⟨rfl, hB⟩
          have HT5 := Lib.hid (HT4.out.trans (hB.mono HT4.out.size))
          have HBX := Lib.hid ((hB.block _ (lt_of_heap HBX.out)).trans HBX.out)
          clear hB
          go_wp2_with fail
          refine OnlyNormal.mk ⟨HT5.out, ?_⟩
          apply wpStages_last
          case hT => exact HT5.out
          case hn => exact Nat.le_refl _
          case hq =>
            intro w2 hT
            simp only [picked, List.filterMap_cons, List.filterMap_nil, List.getElem?_cons_zero, List.getElem?_cons_succ]
            repeat still_step
            exact wpStill_nil rfl
          simp only [picked, List.filterMap_cons, List.filterMap_nil, List.getElem?_cons_zero, List.getElem?_cons_succ]
          have k0 := cell_of HBX.out 0
          have k1 := cell_of HBX.out 1
          have k2 := cell_of HBX.out 2
          have k3 := cell_of HBX.out 3
          have z0 := frozen_of HBX.out
          simp only [List.getElem?_toArray, List.getElem?_cons_zero, List.getElem?_cons_succ] at k0 k1 k2 k3
          go_wp2_with fail
          refine OnlyNormal.mk ?_
          have HN := Lib.hid (set4 HBX.out (.int .i64 (e : Int)) (.int .i64 (sd : Int)) (.int .i64 (z : Int)) (.int .i64 (f : Int)))
          have HT6 := Lib.hid (below4 HT5.out HSX.out (.int .i64 (e : Int)) (.int .i64 (sd : Int)) (.int .i64 (z : Int)) (.int .i64 (f : Int)))
          clear k0 k1 k2 k3 z0
          generalize (((v5.setCell ⟨bx, 0, none⟩ (.int .i64 (e : Int))).setCell ⟨bx, 1, none⟩ (.int .i64 (sd : Int))).setCell ⟨bx, 2, none⟩ (.int .i64 (z : Int))).setCell ⟨bx, 3, none⟩ (.int .i64 (f : Int)) = v6 at *
          have k0 := cell_of HN.out 0
          have k1 := cell_of HN.out 1
          have k2 := cell_of HN.out 2
          have k3 := cell_of HN.out 3
          simp only [List.getElem?_toArray, List.getElem?_cons_zero, List.getElem?_cons_succ] at k0 k1 k2 k3
          have HY := Lib.hid ((HT6.out.block _ (lt_of_heap HBLK.out)).trans HBLK.out)
          have y0 := cell_of HY.out 0
          have y1 := cell_of HY.out 1
          have y2 := cell_of HY.out 2
          have y3 := cell_of HY.out 3
          simp only [List.getElem?_toArray, List.getElem?_cons_zero, List.getElem?_cons_succ] at y0 y1 y2 y3
          have zy := frozen_of HY.out
          have zk := frozen_of HN.out
          by_cases q1 : b0 = 72
          case neg =>
            have q1' : ¬ (b0 : Int) = 72 := by omega
            have q1b : ((b0 : Int) == 72) = false := by simpa using q1'
            go_wp2_with fail
            have HR := Lib.hid (set4 HY.out (.int .i64 0) (.int .i64 0) (.int .i64 0) (.int .i64 0))
            have HQ := Lib.hid (HB1.out.trans (below4 (B := w.heap.size) (HT6.out.mono (Nat.le_of_lt (lt_of_heap HBLK.out))) (Nat.le_refl _) (.int .i64 0) (.int .i64 0) (.int .i64 0) (.int .i64 0)))
            have r0 := cell_of HR.out 0
            have r1 := cell_of HR.out 1
            have r2 := cell_of HR.out 2
            have r3 := cell_of HR.out 3
            simp only [List.getElem?_toArray, List.getElem?_cons_zero, List.getElem?_cons_succ] at r0 r1 r2 r3
            clear y0 y1 y2 y3 k0 k1 k2 k3 zy zk
            generalize (((v6.setCell ⟨w.heap.size, 0, none⟩ (.int .i64 0)).setCell ⟨w.heap.size, 1, none⟩ (.int .i64 0)).setCell ⟨w.heap.size, 2, none⟩ (.int .i64 0)).setCell ⟨w.heap.size, 3, none⟩ (.int .i64 0) = v7 at *
            refine bodyPost_ret (by simp [results, Try.results89, go_sem, r0, r1, r2, r3]; try rfl) rfl ?_
            exact Ret.of (by rw [FIN.out (), if_pos (.inl q1)]; rfl) HQ.out
          subst q1
          by_cases q2 : 1 < sd
          case pos =>
            have q2' : (1 : Int) < (sd : Int) := by omega
            go_wp2_with fail
            have HR := Lib.hid (set4 HY.out (.int .i64 0) (.int .i64 0) (.int .i64 0) (.int .i64 0))
            have HQ := Lib.hid (HB1.out.trans (below4 (B := w.heap.size) (HT6.out.mono (Nat.le_of_lt (lt_of_heap HBLK.out))) (Nat.le_refl _) (.int .i64 0) (.int .i64 0) (.int .i64 0) (.int .i64 0)))
            have r0 := cell_of HR.out 0
            have r1 := cell_of HR.out 1
            have r2 := cell_of HR.out 2
            have r3 := cell_of HR.out 3
            simp only [List.getElem?_toArray, List.getElem?_cons_zero, List.getElem?_cons_succ] at r0 r1 r2 r3
            clear y0 y1 y2 y3 k0 k1 k2 k3 zy zk
            generalize (((v6.setCell ⟨w.heap.size, 0, none⟩ (.int .i64 0)).setCell ⟨w.heap.size, 1, none⟩ (.int .i64 0)).setCell ⟨w.heap.size, 2, none⟩ (.int .i64 0)).setCell ⟨w.heap.size, 3, none⟩ (.int .i64 0) = v7 at *
            refine bodyPost_ret (by simp [results, Try.results89, go_sem, r0, r1, r2, r3]; try rfl) rfl ?_
            exact Ret.of (by rw [FIN.out (), if_pos (.inr (.inl q2))]; rfl) HQ.out
          have q2' : (sd : Int) ≤ 1 := by omega
          by_cases q3 : 6160 < z
          case pos =>
            have q3' : (6160 : Int) < (z : Int) := by omega
            go_wp2_with fail
            have HR := Lib.hid (set4 HY.out (.int .i64 0) (.int .i64 0) (.int .i64 0) (.int .i64 0))
            have HQ := Lib.hid (HB1.out.trans (below4 (B := w.heap.size) (HT6.out.mono (Nat.le_of_lt (lt_of_heap HBLK.out))) (Nat.le_refl _) (.int .i64 0) (.int .i64 0) (.int .i64 0) (.int .i64 0)))
            have r0 := cell_of HR.out 0
            have r1 := cell_of HR.out 1
            have r2 := cell_of HR.out 2
            have r3 := cell_of HR.out 3
            simp only [List.getElem?_toArray, List.getElem?_cons_zero, List.getElem?_cons_succ] at r0 r1 r2 r3
            clear y0 y1 y2 y3 k0 k1 k2 k3 zy zk
            generalize (((v6.setCell ⟨w.heap.size, 0, none⟩ (.int .i64 0)).setCell ⟨w.heap.size, 1, none⟩ (.int .i64 0)).setCell ⟨w.heap.size, 2, none⟩ (.int .i64 0)).setCell ⟨w.heap.size, 3, none⟩ (.int .i64 0) = v7 at *
            refine bodyPost_ret (by simp [results, Try.results89, go_sem, r0, r1, r2, r3]; try rfl) rfl ?_
            exact Ret.of (by rw [FIN.out (), if_pos (.inr (.inr (.inl q3)))]; rfl) HQ.out
          have q3' : (z : Int) ≤ 6160 := by omega
          by_cases q4 : f < 1
          case pos =>
            have q4' : (f : Int) < 1 := by omega
            go_wp2_with fail
            have HR := Lib.hid (set4 HY.out (.int .i64 0) (.int .i64 0) (.int .i64 0) (.int .i64 0))
            have HQ := Lib.hid (HB1.out.trans (below4 (B := w.heap.size) (HT6.out.mono (Nat.le_of_lt (lt_of_heap HBLK.out))) (Nat.le_refl _) (.int .i64 0) (.int .i64 0) (.int .i64 0) (.int .i64 0)))
            have r0 := cell_of HR.out 0
            have r1 := cell_of HR.out 1
            have r2 := cell_of HR.out 2
            have r3 := cell_of HR.out 3
            simp only [List.getElem?_toArray, List.getElem?_cons_zero, List.getElem?_cons_succ] at r0 r1 r2 r3
            clear y0 y1 y2 y3 k0 k1 k2 k3 zy zk
            generalize (((v6.setCell ⟨w.heap.size, 0, none⟩ (.int .i64 0)).setCell ⟨w.heap.size, 1, none⟩ (.int .i64 0)).setCell ⟨w.heap.size, 2, none⟩ (.int .i64 0)).setCell ⟨w.heap.size, 3, none⟩ (.int .i64 0) = v7 at *
            refine bodyPost_ret (by simp [results, Try.results89, go_sem, r0, r1, r2, r3]; try rfl) rfl ?_
            exact Ret.of (by rw [FIN.out (), if_pos (.inr (.inr (.inr q4)))]; rfl) HQ.out
          have q4' : (1 : Int) ≤ (f : Int) := by omega
          go_wp2_with fail
          have HR := Lib.hid (set4 HY.out (.int .i64 (e : Int)) (.int .i64 (sd : Int)) (.int .i64 (z : Int)) (.int .i64 (f : Int)))
          have HQ := Lib.hid (HB1.out.trans (below4 (B := w.heap.size) (HT6.out.mono (Nat.le_of_lt (lt_of_heap HBLK.out))) (Nat.le_refl _) (.int .i64 (e : Int)) (.int .i64 (sd : Int)) (.int .i64 (z : Int)) (.int .i64 (f : Int))))
          have r0 := cell_of HR.out 0
          have r1 := cell_of HR.out 1
          have r2 := cell_of HR.out 2
          have r3 := cell_of HR.out 3
          simp only [List.getElem?_toArray, List.getElem?_cons_zero, List.getElem?_cons_succ] at r0 r1 r2 r3
          clear y0 y1 y2 y3 k0 k1 k2 k3 zy zk
          generalize (((v6.setCell ⟨w.heap.size, 0, none⟩ (.int .i64 (e : Int))).setCell ⟨w.heap.size, 1, none⟩ (.int .i64 (sd : Int))).setCell ⟨w.heap.size, 2, none⟩ (.int .i64 (z : Int))).setCell ⟨w.heap.size, 3, none⟩ (.int .i64 (f : Int)) = v7 at *
          refine bodyPost_ret (by simp [results, Try.results89, go_sem, r0, r1, r2, r3]; try rfl) rfl ?_
          exact Ret.of (by rw [FIN.out (), if_neg (by rintro (h | h | h | h) <;> omega)]; rfl) HQ.out
      · simp only [picked, List.filterMap_cons, List.filterMap_nil, List.getElem?_cons_zero, List.getElem?_cons_succ]
        go_wp2_with fail
        have HBX := Lib.hid (heap_alloc_new v2 (.cells #[.int .i64 0, .int .i64 0, .int .i64 0, .int .i64 0] 143))
        have HSX := Lib.hid HT2.out.size
        have HT3 := Lib.hid (HT2.out.alloc HT2.out.size (.cells #[.int .i64 0, .int .i64 0, .int .i64 0, .int .i64 0] 143))
        generalize hv3 : v2.alloc (.cells #[.int .i64 0, .int .i64 0, .int .i64 0, .int .i64 0] 143) = v3 at *
        clear hv3
        generalize hbx : v2.heap.size = bx at *
        clear hbx
        refine OnlyNormal.mk ⟨HT3.out, ?_⟩
        show wpStages _ _ _ _ _ _ _ _
        apply wpStages_seqkeep
        simp only [picked, List.filterMap_cons, List.filterMap_nil, List.getElem?_cons_zero, List.getElem?_cons_succ]
        go_wp2_with fail
        refine (U9.out _).mono ?_
        rintro _ v4 ⟨rfl, hB⟩
        have HT4 := Lib.hid (HT3.out.trans (hB.mono HT3.out.size))
        have HBX := Lib.hid ((hB.block _ (lt_of_heap HBX.out)).trans HBX.out)
        clear hB
        go_wp2_with fail
        refine OnlyNormal.mk ⟨HT4.out, ?_⟩
        apply wpStages_seqkeep
        simp only [picked, List.filterMap_cons, List.filterMap_nil, List.getElem?_cons_zero, List.getElem?_cons_succ]
        go_wp2_with fail
        refine (U13.out _).mono ?_
        rintro _ v5 ⟨rfl, hB⟩
        have HT5 := Lib.hid (HT4.out.trans (hB.mono HT4.out.size))
        have HBX := Lib.hid ((hB.block _ (lt_of_heap HBX.out)).trans HBX.out)
        clear hB
        go_wp2_with fail
        refine OnlyNormal.mk ⟨HT5.out, ?_⟩
        apply wpStages_last
        case hT => exact HT5.out
        case hn => exact Nat.le_refl _
        case hq =>
          intro w2 hT
          simp only [picked, List.filterMap_cons, List.filterMap_nil, List.getElem?_cons_zero, List.getElem?_cons_succ]
          repeat still_step
          exact wpStill_nil rfl
        simp only [picked, List.filterMap_cons, List.filterMap_nil, List.getElem?_cons_zero, List.getElem?_cons_succ]
        have k0 := cell_of HBX.out 0
        have k1 := cell_of HBX.out 1
        have k2 := cell_of HBX.out 2
        have k3 := cell_of HBX.out 3
        have z0 := frozen_of HBX.out
        simp only [List.getElem?_toArray, List.getElem?_cons_zero, List.getElem?_cons_succ] at k0 k1 k2 k3
        go_wp2_with fail
        refine OnlyNormal.mk ?_
        have HN := Lib.hid (set4 HBX.out (.int .i64 (e : Int)) (.int .i64 (sd : Int)) (.int .i64 (z : Int)) (.int .i64 (f : Int)))
        have HT6 := Lib.hid (below4 HT5.out HSX.out (.int .i64 (e : Int)) (.int .i64 (sd : Int)) (.int .i64 (z : Int)) (.int .i64 (f : Int)))
        clear k0 k1 k2 k3 z0
        generalize (((v5.setCell ⟨bx, 0, none⟩ (.int .i64 (e : Int))).setCell ⟨bx, 1, none⟩ (.int .i64 (sd : Int))).setCell ⟨bx, 2, none⟩ (.int .i64 (z : Int))).setCell ⟨bx, 3, none⟩ (.int .i64 (f : Int)) = v6 at *
        have k0 := cell_of HN.out 0
        have k1 := cell_of HN.out 1
        have k2 := cell_of HN.out 2
        have k3 := cell_of HN.out 3
        simp only [List.getElem?_toArray, List.getElem?_cons_zero, List.getElem?_cons_succ] at k0 k1 k2 k3
        have HY := Lib.hid ((HT6.out.block _ (lt_of_heap HBLK.out)).trans HBLK.out)
        have y0 := cell_of HY.out 0
        have y1 := cell_of HY.out 1
        have y2 := cell_of HY.out 2
        have y3 := cell_of HY.out 3
        simp only [List.getElem?_toArray, List.getElem?_cons_zero, List.getElem?_cons_succ] at y0 y1 y2 y3
        have zy := frozen_of HY.out
        have zk := frozen_of HN.out
        by_cases q1 : b0 = 72
        case neg =>
          have q1' : ¬ (b0 : Int) = 72 := by omega
          have q1b : ((b0 : Int) == 72) = false := by simpa using q1'
          go_wp2_with fail
          have HR := Lib.hid (set4 HY.out (.int .i64 0) (.int .i64 0) (.int .i64 0) (.int .i64 0))
          have HQ := Lib.hid (HB1.out.trans (below4 (B := w.heap.size) (HT6.out.mono (Nat.le_of_lt (lt_of_heap HBLK.out))) (Nat.le_refl _) (.int .i64 0) (.int .i64 0) (.int .i64 0) (.int .i64 0)))
          have r0 := cell_of HR.out 0
          have r1 := cell_of HR.out 1
          have r2 := cell_of HR.out 2
          have r3 := cell_of HR.out 3
          simp only [List.getElem?_toArray, List.getElem?_cons_zero, List.getElem?_cons_succ] at r0 r1 r2 r3
          clear y0 y1 y2 y3 k0 k1 k2 k3 zy zk
          generalize (((v6.setCell ⟨w.heap.size, 0, none⟩ (.int .i64 0)).setCell ⟨w.heap.size, 1, none⟩ (.int .i64 0)).setCell ⟨w.heap.size, 2, none⟩ (.int .i64 0)).setCell ⟨w.heap.size, 3, none⟩ (.int .i64 0) = v7 at *
          refine bodyPost_ret (by simp [results, Try.results89, go_sem, r0, r1, r2, r3]; try rfl) rfl ?_
          exact Ret.of (by rw [FIN.out (), if_pos (.inl q1)]; rfl) HQ.out
        subst q1
        by_cases q2 : 1 < sd
        case pos =>
          have q2' : (1 : Int) < (sd : Int) := by omega
          go_wp2_with fail
          have HR := Lib.hid (set4 HY.out (.int .i64 0) (.int .i64 0) (.int .i64 0) (.int .i64 0))
          have HQ := Lib.hid (HB1.out.trans (below4 (B := w.heap.size) (HT6.out.mono (Nat.le_of_lt (lt_of_heap HBLK.out))) (Nat.le_refl _) (.int .i64 0) (.int .i64 0) (.int .i64 0) (.int .i64 0)))
          have r0 := cell_of HR.out 0
          have r1 := cell_of HR.out 1
          have r2 := cell_of HR.out 2
          have r3 := cell_of HR.out 3
          simp only [List.getElem?_toArray, List.getElem?_cons_zero, List.getElem?_cons_succ] at r0 r1 r2 r3
          clear y0 y1 y2 y3 k0 k1 k2 k3 zy zk
          generalize (((v6.setCell ⟨w.heap.size, 0, none⟩ (.int .i64 0)).setCell ⟨w.heap.size, 1, none⟩ (.int .i64 0)).setCell ⟨w.heap.size, 2, none⟩ (.int .i64 0)).setCell ⟨w.heap.size, 3, none⟩ (.int .i64 0) = v7 at *
          refine bodyPost_ret (by simp [results, Try.results89, go_sem, r0, r1, r2, r3]; try rfl) rfl ?_
          exact Ret.of (by rw [FIN.out (), if_pos (.inr (.inl q2))]; rfl) HQ.out
        have q2' : (sd : Int) ≤ 1 := by omega
        by_cases q3 : 6160 < z
        case pos =>
          have q3' : (6160 : Int) < (z : Int) := by omega
          go_wp2_with fail
          have HR := Lib.hid (set4 HY.out (.int .i64 0) (.int .i64 0) (.int .i64 0) (.int .i64 0))
          have HQ := Lib.hid (HB1.out.trans (below4 (B := w.heap.size) (HT6.out.mono (Nat.le_of_lt (lt_of_heap HBLK.out))) (Nat.le_refl _) (.int .i64 0) (.int .i64 0) (.int .i64 0) (.int .i64 0)))
          have r0 := cell_of HR.out 0
          have r1 := cell_of HR.out 1
          have r2 := cell_of HR.out 2
          have r3 := cell_of HR.out 3
          simp only [List.getElem?_toArray, List.getElem?_cons_zero, List.getElem?_cons_succ] at r0 r1 r2 r3
          clear y0 y1 y2 y3 k0 k1 k2 k3 zy zk
          generalize (((v6.setCell ⟨w.heap.size, 0, none⟩ (.int .i64 0)).setCell ⟨w.heap.size, 1, none⟩ (.int .i64 0)).setCell ⟨w.heap.size, 2, none⟩ (.int .i64 0)).setCell ⟨w.heap.size, 3, none⟩ (.int .i64 0) = v7 at *
          refine bodyPost_ret (by simp [results, Try.results89, go_sem, r0, r1, r2, r3]; try rfl) rfl ?_
          exact Ret.of (by rw [FIN.out (), if_pos (.inr (.inr (.inl q3)))]; rfl) HQ.out
        have q3' : (z : Int) ≤ 6160 := by omega
        by_cases q4 : f < 1
        case pos =>
          have q4' : (f : Int) < 1 := by omega
          go_wp2_with fail
          have HR := Lib.hid (set4 HY.out (.int .i64 0) (.int .i64 0) (.int .i64 0) (.int .i64 0))
          have HQ := Lib.hid (HB1.out.trans (below4 (B := w.heap.size) (HT6.out.mono (Nat.le_of_lt (lt_of_heap HBLK.out))) (Nat.le_refl _) (.int .i64 0) (.int .i64 0) (.int .i64 0) (.int .i64 0)))
          have r0 := cell_of HR.out 0
          have r1 := cell_of HR.out 1
          have r2 := cell_of HR.out 2
          have r3 := cell_of HR.out 3
          simp only [List.getElem?_toArray, List.getElem?_cons_zero, List.getElem?_cons_succ] at r0 r1 r2 r3
          clear y0 y1 y2 y3 k0 k1 k2 k3 zy zk
          generalize (((v6.setCell ⟨w.heap.size, 0, none⟩ (.int .i64 0)).setCell ⟨w.heap.size, 1, none⟩ (.int .i64 0)).setCell ⟨w.heap.size, 2, none⟩ (.int .i64 0)).setCell ⟨w.heap.size, 3, none⟩ (.int .i64 0) = v7 at *
          refine bodyPost_ret (by simp [results, Try.results89, go_sem, r0, r1, r2, r3]; try rfl) rfl ?_
          exact Ret.of (by rw [FIN.out (), if_pos (.inr (.inr (.inr q4)))]; rfl) HQ.out
        have q4' : (1 : Int) ≤ (f : Int) := by omega
        go_wp2_with fail
        have HR := Lib.hid (set4 HY.out (.int .i64 (e : Int)) (.int .i64 (sd : Int)) (.int .i64 (z : Int)) (.int .i64 (f : Int)))
        have HQ := Lib.hid (HB1.out.trans (below4 (B := w.heap.size) (HT6.out.mono (Nat.le_of_lt (lt_of_heap HBLK.out))) (Nat.le_refl _) (.int .i64 (e : Int)) (.int .i64 (sd : Int)) (.int .i64 (z : Int)) (.int .i64 (f : Int))))
        have r0 := cell_of HR.out 0
        have r1 := cell_of HR.out 1
        have r2 := cell_of HR.out 2
        have r3 := cell_of HR.out 3
        simp only [List.getElem?_toArray, List.getElem?_cons_zero, List.getElem?_cons_succ] at r0 r1 r2 r3
        clear y0 y1 y2 y3 k0 k1 k2 k3 zy zk
        generalize (((v6.setCell ⟨w.heap.size, 0, none⟩ (.int .i64 (e : Int))).setCell ⟨w.heap.size, 1, none⟩ (.int .i64 (sd : Int))).setCell ⟨w.heap.size, 2, none⟩ (.int .i64 (z : Int))).setCell ⟨w.heap.size, 3, none⟩ (.int .i64 (f : Int)) = v7 at *
        refine bodyPost_ret (by simp [results, Try.results89, go_sem, r0, r1, r2, r3]; try rfl) rfl ?_
        exact Ret.of (by rw [FIN.out (), if_neg (by rintro (h | h | h | h) <;> omega)]; rfl) HQ.out
    · simp only [picked, List.filterMap_cons, List.filterMap_nil, List.getElem?_cons_zero, List.getElem?_cons_succ]
      go_wp2_with fail
      have HBX := Lib.hid (heap_alloc_new v1 (.cells #[.int .i64 0, .int .i64 0, .int .i64 0, .int .i64 0] 143))
      have HSX := Lib.hid HT1.out.size
      have HT2 := Lib.hid (HT1.out.alloc HT1.out.size (.cells #[.int .i64 0, .int .i64 0, .int .i64 0, .int .i64 0] 143))
      generalize hv2 : v1.alloc (.cells #[.int .i64 0, .int .i64 0, .int .i64 0, .int .i64 0] 143) = v2 at *
      clear hv2
      generalize hbx : v1.heap.size = bx at *
      clear hbx
      refine OnlyNormal.mk ⟨HT2.out, ?_⟩
      show wpStages _ _ _ _ _ _ _ _
      apply wpStages_seqkeep
      simp only [picked, List.filterMap_cons, List.filterMap_nil, List.getElem?_cons_zero, List.getElem?_cons_succ]
      go_wp2_with fail
      refine (U5.out _).mono ?_
      rintro _ v3 ⟨rfl, hB⟩
      have HT3 := Lib.hid (HT2.out.trans (hB.mono HT2.out.size))
      have HBX := Lib.hid ((hB.block _ (lt_of_heap HBX.out)).trans HBX.out)
      clear hB
      go_wp2_with fail
      refine OnlyNormal.mk ⟨HT3.out, ?_⟩
      apply wpStages_seqkeep
      simp only [picked, List.filterMap_cons, List.filterMap_nil, List.getElem?_cons_zero, List.getElem?_cons_succ]
      go_wp2_with fail
      refine (U9.out _).mono ?_
      rintro _ v4 ⟨rfl, hB⟩
      have HT4 := Lib.hid (HT3.out.trans (hB.mono HT3.out.size))
      have HBX := Lib.hid ((hB.block _ (lt_of_heap HBX.out)).trans HBX.out)
      clear hB
      go_wp2_with fail
      refine OnlyNormal.mk ⟨HT4.out, ?_⟩
      apply wpStages_seqkeep
      simp only [picked, List.filterMap_cons, List.filterMap_nil, List.getElem?_cons_zero, List.getElem?_cons_succ]
      go_wp2_with fail
      refine (U13.out _).mono ?_
      rintro _ v5 ⟨rfl, hB⟩
      have HT5 := Lib.hid (HT4.out.trans (hB.mono HT4.out.size))
      have HBX := Lib.hid ((hB.block _ (lt_of_heap HBX.out)).trans HBX.out)
      clear hB
      go_wp2_with fail
      refine OnlyNormal.mk ⟨HT5.out, ?_⟩
      apply wpStages_last
      case hT => exact HT5.out
      case hn => exact Nat.le_refl _
      case hq =>
        intro w2 hT
        simp only [picked, List.filterMap_cons, List.filterMap_nil, List.getElem?_cons_zero, List.getElem?_cons_succ]
        repeat still_step
        exact wpStill_nil rfl
      simp only [picked, List.filterMap_cons, List.filterMap_nil, List.getElem?_cons_zero, List.getElem?_cons_succ]
      have k0 := cell_of HBX.out 0
      have k1 := cell_of HBX.out 1
      have k2 := cell_of HBX.out 2
      have k3 := cell_of HBX.out 3
      have z0 := frozen_of HBX.out
      simp only [List.getElem?_toArray, List.getElem?_cons_zero, List.getElem?_cons_succ] at k0 k1 k2 k3
      go_wp2_with fail
      refine OnlyNormal.mk ?_
      have HN := Lib.hid (set4 HBX.out (.int .i64 (e : Int)) (.int .i64 (sd : Int)) (.int .i64 (z : Int)) (.int .i64 (f : Int)))
      have HT6 := Lib.hid (below4 HT5.out HSX.out (.int .i64 (e : Int)) (.int .i64 (sd : Int)) (.int .i64 (z : Int)) (.int .i64 (f : Int)))
      clear k0 k1 k2 k3 z0
      generalize (((v5.setCell ⟨bx, 0, none⟩ (.int .i64 (e : Int))).setCell ⟨bx, 1, none⟩ (.int .i64 (sd : Int))).setCell ⟨bx, 2, none⟩ (.int .i64 (z : Int))).setCell ⟨bx, 3, none⟩ (.int .i64 (f : Int)) = v6 at *
      have k0 := cell_of HN.out 0
      have k1 := cell_of HN.out 1
      have k2 := cell_of HN.out 2
      have k3 := cell_of HN.out 3
      simp only [List.getElem?_toArray, List.getElem?_cons_zero, List.getElem?_cons_succ] at k0 k1 k2 k3
      have HY := Lib.hid ((HT6.out.block _ (lt_of_heap HBLK.out)).trans HBLK.out)
      have y0 := cell_of HY.out 0
      have y1 := cell_of HY.out 1
      have y2 := cell_of HY.out 2
      have y3 := cell_of HY.out 3
      simp only [List.getElem?_toArray, List.getElem?_cons_zero, List.getElem?_cons_succ] at y0 y1 y2 y3
      have zy := frozen_of HY.out
      have zk := frozen_of HN.out
      by_cases q1 : b0 = 72
      case neg =>
        have q1' : ¬ (b0 : Int) = 72 := by omega
        have q1b : ((b0 : Int) == 72) = false := by simpa using q1'
        go_wp2_with fail
        have HR := Lib.hid (set4 HY.out (.int .i64 0) (.int .i64 0) (.int .i64 0) (.int .i64 0))
        have HQ := Lib.hid (HB1.out.trans (below4 (B := w.heap.size) (HT6.out.mono (Nat.le_of_lt (lt_of_heap HBLK.out))) (Nat.le_refl _) (.int .i64 0) (.int .i64 0) (.int .i64 0) (.int .i64 0)))
        have r0 := cell_of HR.out 0
        have r1 := cell_of HR.out 1
        have r2 := cell_of HR.out 2
        have r3 := cell_of HR.out 3
        simp only [List.getElem?_toArray, List.getElem?_cons_zero, List.getElem?_cons_succ] at r0 r1 r2 r3
        clear y0 y1 y2 y3 k0 k1 k2 k3 zy zk
        generalize (((v6.setCell ⟨w.heap.size, 0, none⟩ (.int .i64 0)).setCell ⟨w.heap.size, 1, none⟩ (.int .i64 0)).setCell ⟨w.heap.size, 2, none⟩ (.int .i64 0)).setCell ⟨w.heap.size, 3, none⟩ (.int .i64 0) = v7 at *
        refine bodyPost_ret (by simp [results, Try.results89, go_sem, r0, r1, r2, r3]; try rfl) rfl ?_
        exact Ret.of (by rw [FIN.out (), if_pos (.inl q1)]; rfl) HQ.out
      subst q1
      by_cases q2 : 1 < sd
      case pos =>
        have q2' : (1 : Int) < (sd : Int) := by omega
        go_wp2_with fail
        have HR := Lib.hid (set4 HY.out (.int .i64 0) (.int .i64 0) (.int .i64 0) (.int .i64 0))
        have HQ := Lib.hid (HB1.out.trans (below4 (B := w.heap.size) (HT6.out.mono (Nat.le_of_lt (lt_of_heap HBLK.out))) (Nat.le_refl _) (.int .i64 0) (.int .i64 0) (.int .i64 0) (.int .i64 0)))
        have r0 := cell_of HR.out 0
        have r1 := cell_of HR.out 1
        have r2 := cell_of HR.out 2
        have r3 := cell_of HR.out 3
        simp only [List.getElem?_toArray, List.getElem?_cons_zero, List.getElem?_cons_succ] at r0 r1 r2 r3
        clear y0 y1 y2 y3 k0 k1 k2 k3 zy zk
        generalize (((v6.setCell ⟨w.heap.size, 0, none⟩ (.int .i64 0)).setCell ⟨w.heap.size, 1, none⟩ (.int .i64 0)).setCell ⟨w.heap.size, 2, none⟩ (.int .i64 0)).setCell ⟨w.heap.size, 3, none⟩ (.int .i64 0) = v7 at *
        refine bodyPost_ret (by simp [results, Try.results89, go_sem, r0, r1, r2, r3]; try rfl) rfl ?_
        exact Ret.of (by rw [FIN.out (), if_pos (.inr (.inl q2))]; rfl) HQ.out
      have q2' : (sd : Int) ≤ 1 := by omega
      by_cases q3 : 6160 < z
      case pos =>
        have q3' : (6160 : Int) < (z : Int) := by omega
        go_wp2_with fail
        have HR := Lib.hid (set4 HY.out (.int .i64 0) (.int .i64 0) (.int .i64 0) (.int .i64 0))
        have HQ := Lib.hid (HB1.out.trans (below4 (B := w.heap.size) (HT6.out.mono (Nat.le_of_lt (lt_of_heap HBLK.out))) (Nat.le_refl _) (.int .i64 0) (.int .i64 0) (.int .i64 0) (.int .i64 0)))
        have r0 := cell_of HR.out 0
        have r1 := cell_of HR.out 1
        have r2 := cell_of HR.out 2
        have r3 := cell_of HR.out 3
        simp only [List.getElem?_toArray, List.getElem?_cons_zero, List.getElem?_cons_succ] at r0 r1 r2 r3
        clear y0 y1 y2 y3 k0 k1 k2 k3 zy zk
        generalize (((v6.setCell ⟨w.heap.size, 0, none⟩ (.int .i64 0)).setCell ⟨w.heap.size, 1, none⟩ (.int .i64 0)).setCell ⟨w.heap.size, 2, none⟩ (.int .i64 0)).setCell ⟨w.heap.size, 3, none⟩ (.int .i64 0) = v7 at *
        refine bodyPost_ret (by simp [results, Try.results89, go_sem, r0, r1, r2, r3]; try rfl) rfl ?_
        exact Ret.of (by rw [FIN.out (), if_pos (.inr (.inr (.inl q3)))]; rfl) HQ.out
      have q3' : (z : Int) ≤ 6160 := by omega
      by_cases q4 : f < 1
      case pos =>
        have q4' : (f : Int) < 1 := by omega
        go_wp2_with fail
        have HR := Lib.hid (set4 HY.out (.int .i64 0) (.int .i64 0) (.int .i64 0) (.int .i64 0))
        have HQ := Lib.hid (HB1.out.trans (below4 (B := w.heap.size) (HT6.out.mono (Nat.le_of_lt (lt_of_heap HBLK.out))) (Nat.le_refl _) (.int .i64 0) (.int .i64 0) (.int .i64 0) (.int .i64 0)))
        have r0 := cell_of HR.out 0
        have r1 := cell_of HR.out 1
        have r2 := cell_of HR.out 2
        have r3 := cell_of HR.out 3
        simp only [List.getElem?_toArray, List.getElem?_cons_zero, List.getElem?_cons_succ] at r0 r1 r2 r3
        clear y0 y1 y2 y3 k0 k1 k2 k3 zy zk
        generalize (((v6.setCell ⟨w.heap.size, 0, none⟩ (.int .i64 0)).setCell ⟨w.heap.size, 1, none⟩ (.int .i64 0)).setCell ⟨w.heap.size, 2, none⟩ (.int .i64 0)).setCell ⟨w.heap.size, 3, none⟩ (.int .i64 0) = v7 at *
        refine bodyPost_ret (by simp [results, Try.results89, go_sem, r0, r1, r2, r3]; try rfl) rfl ?_
        exact Ret.of (by rw [FIN.out (), if_pos (.inr (.inr (.inr q4)))]; rfl) HQ.out
      have q4' : (1 : Int) ≤ (f : Int) := by omega
      go_wp2_with fail
      have HR := Lib.hid (set4 HY.out (.int .i64 (e : Int)) (.int .i64 (sd : Int)) (.int .i64 (z : Int)) (.int .i64 (f : Int)))
      have HQ := Lib.hid (HB1.out.trans (below4 (B := w.heap.size) (HT6.out.mono (Nat.le_of_lt (lt_of_heap HBLK.out))) (Nat.le_refl _) (.int .i64 (e : Int)) (.int .i64 (sd : Int)) (.int .i64 (z : Int)) (.int .i64 (f : Int))))
      have r0 := cell_of HR.out 0
      have r1 := cell_of HR.out 1
      have r2 := cell_of HR.out 2
      have r3 := cell_of HR.out 3
      simp only [List.getElem?_toArray, List.getElem?_cons_zero, List.getElem?_cons_succ] at r0 r1 r2 r3
      clear y0 y1 y2 y3 k0 k1 k2 k3 zy zk
      generalize (((v6.setCell ⟨w.heap.size, 0, none⟩ (.int .i64 (e : Int))).setCell ⟨w.heap.size, 1, none⟩ (.int .i64 (sd : Int))).setCell ⟨w.heap.size, 2, none⟩ (.int .i64 (z : Int))).setCell ⟨w.heap.size, 3, none⟩ (.int .i64 (f : Int)) = v7 at *
      refine bodyPost_ret (by simp [results, Try.results89, go_sem, r0, r1, r2, r3]; try rfl) rfl ?_
      exact Ret.of (by rw [FIN.out (), if_neg (by rintro (h | h | h | h) <;> omega)]; rfl) HQ.out
  · simp only [picked, List.filterMap_cons, List.filterMap_nil, List.getElem?_cons_zero, List.getElem?_cons_succ]
    go_wp2_with fail
    have HBX := Lib.hid (heap_alloc_new v0 (.cells #[.int .i64 0, .int .i64 0, .int .i64 0, .int .i64 0] 143))
    have HSX := Lib.hid HT0.out.size
    have HT1 := Lib.hid (HT0.out.alloc HT0.out.size (.cells #[.int .i64 0, .int .i64 0, .int .i64 0, .int .i64 0] 143))
    generalize hv1 : v0.alloc (.cells #[.int .i64 0, .int .i64 0, .int .i64 0, .int .i64 0] 143) = v1 at *
    clear hv1
    generalize hbx : v0.heap.size = bx at *
    clear hbx
    refine OnlyNormal.mk ⟨HT1.out, ?_⟩
    show wpStages _ _ _ _ _ _ _ _
    apply wpStages_seqkeep
    simp only [picked, List.filterMap_cons, List.filterMap_nil, List.getElem?_cons_zero, List.getElem?_cons_succ]
    go_wp2_with fail
    refine (U1.out _).mono ?_
    rintro _ v2 ⟨rfl, hB⟩
    have HT2 := Lib.hid (HT1.out.trans (hB.mono HT1.out.size))
    have HBX := Lib.hid ((hB.block _ (lt_of_heap HBX.out)).trans HBX.out)
    clear hB
    go_wp2_with fail
    refine OnlyNormal.mk ⟨HT2.out, ?_⟩
    apply wpStages_seqkeep
    simp only [picked, List.filterMap_cons, List.filterMap_nil, List.getElem?_cons_zero, List.getElem?_cons_succ]
    go_wp2_with fail
    refine (U5.out _).mono ?_
    rintro _ v3 ⟨rfl, hB⟩
    have HT3 := Lib.hid (HT2.out.trans (hB.mono HT2.out.size))
    have HBX := Lib.hid ((hB.block _ (lt_of_heap HBX.out)).trans HBX.out)
    clear hB
    go_wp2_with fail
    refine OnlyNormal.mk ⟨HT3.out, ?_⟩
    apply wpStages_seqkeep
    simp only [picked, List.filterMap_cons, List.filterMap_nil, List.getElem?_cons_zero, List.getElem?_cons_succ]
    go_wp2_with fail
    refine (U9.out _).mono ?_
    rintro _ v4 ⟨rfl, hB⟩
    have HT4 := Lib.hid (HT3.out.trans (hB.mono HT3.out.size))
    have HBX := Lib.hid ((hB.block _ (lt_of_heap HBX.out)).trans HBX.out)
    clear hB
    go_wp2_with fail
    refine OnlyNormal.mk ⟨HT4.out, ?_⟩
    apply wpStages_seqkeep
    simp only [picked, List.filterMap_cons, List.filterMap_nil, List.getElem?_cons_zero, List.getElem?_cons_succ]
    go_wp2_with fail
    refine (U13.out _).mono ?_
    rintro _ v5 ⟨rfl, hB⟩
    have HT5 := Lib.hid (HT4.out.trans (hB.mono HT4.out.size))
    have HBX := Lib.hid ((hB.block _ (lt_of_heap HBX.out)).trans HBX.out)
    clear hB
    go_wp2_with fail
    refine OnlyNormal.mk ⟨HT5.out, ?_⟩
    apply wpStages_last
    case hT => exact HT5.out
    case hn => exact Nat.le_refl _
    case hq =>
      intro w2 hT
      simp only [picked, List.filterMap_cons, List.filterMap_nil, List.getElem?_cons_zero, List.getElem?_cons_succ]
      repeat still_step
      exact wpStill_nil rfl
    simp only [picked, List.filterMap_cons, List.filterMap_nil, List.getElem?_cons_zero, List.getElem?_cons_succ]
    have k0 := cell_of HBX.out 0
    have k1 := cell_of HBX.out 1
    have k2 := cell_of HBX.out 2
    have k3 := cell_of HBX.out 3
    have z0 := frozen_of HBX.out
    simp only [List.getElem?_toArray, List.getElem?_cons_zero, List.getElem?_cons_succ] at k0 k1 k2 k3
    go_wp2_with fail
    refine OnlyNormal.mk ?_
    have HN := Lib.hid (set4 HBX.out (.int .i64 (e : Int)) (.int .i64 (sd : Int)) (.int .i64 (z : Int)) (.int .i64 (f : Int)))
    have HT6 := Lib.hid (below4 HT5.out HSX.out (.int .i64 (e : Int)) (.int .i64 (sd : Int)) (.int .i64 (z : Int)) (.int .i64 (f : Int)))
    clear k0 k1 k2 k3 z0
    generalize (((v5.setCell ⟨bx, 0, none⟩ (.int .i64 (e : Int))).setCell ⟨bx, 1, none⟩ (.int .i64 (sd : Int))).setCell ⟨bx, 2, none⟩ (.int .i64 (z : Int))).setCell ⟨bx, 3, none⟩ (.int .i64 (f : Int)) = v6 at *
    have k0 := cell_of HN.out 0
    have k1 := cell_of HN.out 1
    have k2 := cell_of HN.out 2
    have k3 := cell_of HN.out 3
    simp only [List.getElem?_toArray, List.getElem?_cons_zero, List.getElem?_cons_succ] at k0 k1 k2 k3
    have HY := Lib.hid ((HT6.out.block _ (lt_of_heap HBLK.out)).trans HBLK.out)
    have y0 := cell_of HY.out 0
    have y1 := cell_of HY.out 1
    have y2 := cell_of HY.out 2
    have y3 := cell_of HY.out 3
    simp only [List.getElem?_toArray, List.getElem?_cons_zero, List.getElem?_cons_succ] at y0 y1 y2 y3
    have zy := frozen_of HY.out
    have zk := frozen_of HN.out
    by_cases q1 : b0 = 72
    case neg =>
      have q1' : ¬ (b0 : Int) = 72 := by omega
      have q1b : ((b0 : Int) == 72) = false := by simpa using q1'
      go_wp2_with fail
      have HR := Lib.hid (set4 HY.out (.int .i64 0) (.int .i64 0) (.int .i64 0) (.int .i64 0))
      have HQ := Lib.hid (HB1.out.trans (below4 (B := w.heap.size) (HT6.out.mono (Nat.le_of_lt (lt_of_heap HBLK.out))) (Nat.le_refl _) (.int .i64 0) (.int .i64 0) (.int .i64 0) (.int .i64 0)))
      have r0 := cell_of HR.out 0
      have r1 := cell_of HR.out 1
      have r2 := cell_of HR.out 2
      have r3 := cell_of HR.out 3
      simp only [List.getElem?_toArray, List.getElem?_cons_zero, List.getElem?_cons_succ] at r0 r1 r2 r3
      clear y0 y1 y2 y3 k0 k1 k2 k3 zy zk
      generalize (((v6.setCell ⟨w.heap.size, 0, none⟩ (.int .i64 0)).setCell ⟨w.heap.size, 1, none⟩ (.int .i64 0)).setCell ⟨w.heap.size, 2, none⟩ (.int .i64 0)).setCell ⟨w.heap.size, 3, none⟩ (.int .i64 0) = v7 at *
      refine bodyPost_ret (by simp [results, Try.results89, go_sem, r0, r1, r2, r3]; try rfl) rfl ?_
      exact Ret.of (by rw [FIN.out (), if_pos (.inl q1)]; rfl) HQ.out
    subst q1
    by_cases q2 : 1 < sd
    case pos =>
      have q2' : (1 : Int) < (sd : Int) := by omega
      go_wp2_with fail
      have HR := Lib.hid (set4 HY.out (.int .i64 0) (.int .i64 0) (.int .i64 0) (.int .i64 0))
      have HQ := Lib.hid (HB1.out.trans (below4 (B := w.heap.size) (HT6.out.mono (Nat.le_of_lt (lt_of_heap HBLK.out))) (Nat.le_refl _) (.int .i64 0) (.int .i64 0) (.int .i64 0) (.int .i64 0)))
      have r0 := cell_of HR.out 0
      have r1 := cell_of HR.out 1
      have r2 := cell_of HR.out 2
      have r3 := cell_of HR.out 3
      simp only [List.getElem?_toArray, List.getElem?_cons_zero, List.getElem?_cons_succ] at r0 r1 r2 r3
      clear y0 y1 y2 y3 k0 k1 k2 k3 zy zk
      generalize (((v6.setCell ⟨w.heap.size, 0, none⟩ (.int .i64 0)).setCell ⟨w.heap.size, 1, none⟩ (.int .i64 0)).setCell ⟨w.heap.size, 2, none⟩ (.int .i64 0)).setCell ⟨w.heap.size, 3, none⟩ (.int .i64 0) = v7 at *
      refine bodyPost_ret (by simp [results, Try.results89, go_sem, r0, r1, r2, r3]; try rfl) rfl ?_
      exact Ret.of (by rw [FIN.out (), if_pos (.inr (.inl q2))]; rfl) HQ.out
    have q2' : (sd : Int) ≤ 1 := by omega
    by_cases q3 : 6160 < z
    case pos =>
      have q3' : (6160 : Int) < (z : Int) := by omega
      go_wp2_with fail
      have HR := Lib.hid (set4 HY.out (.int .i64 0) (.int .i64 0) (.int .i64 0) (.int .i64 0))
      have HQ := Lib.hid (HB1.out.trans (below4 (B := w.heap.size) (HT6.out.mono (Nat.le_of_lt (lt_of_heap HBLK.out))) (Nat.le_refl _) (.int .i64 0) (.int .i64 0) (.int .i64 0) (.int .i64 0)))
      have r0 := cell_of HR.out 0
      have r1 := cell_of HR.out 1
      have r2 := cell_of HR.out 2
      have r3 := cell_of HR.out 3
      simp only [List.getElem?_toArray, List.getElem?_cons_zero, List.getElem?_cons_succ] at r0 r1 r2 r3
      clear y0 y1 y2 y3 k0 k1 k2 k3 zy zk
      generalize (((v6.setCell ⟨w.heap.size, 0, none⟩ (.int .i64 0)).setCell ⟨w.heap.size, 1, none⟩ (.int .i64 0)).setCell ⟨w.heap.size, 2, none⟩ (.int .i64 0)).setCell ⟨w.heap.size, 3, none⟩ (.int .i64 0) = v7 at *
      refine bodyPost_ret (by simp [results, Try.results89, go_sem, r0, r1, r2, r3]; try rfl) rfl ?_
      exact Ret.of (by rw [FIN.out (), if_pos (.inr (.inr (.inl q3)))]; rfl) HQ.out
    have q3' : (z : Int) ≤ 6160 := by omega
    by_cases q4 : f < 1
    case pos =>
      have q4' : (f : Int) < 1 := by omega
      go_wp2_with fail
      have HR := Lib.hid (set4 HY.out (.int .i64 0) (.int .i64 0) (.int .i64 0) (.int .i64 0))
      have HQ := Lib.hid (HB1.out.trans (below4 (B := w.heap.size) (HT6.out.mono (Nat.le_of_lt (lt_of_heap HBLK.out))) (Nat.le_refl _) (.int .i64 0) (.int .i64 0) (.int .i64 0) (.int .i64 0)))
      have r0 := cell_of HR.out 0
      have r1 := cell_of HR.out 1
      have r2 := cell_of HR.out 2
      have r3 := cell_of HR.out 3
      simp only [List.getElem?_toArray, List.getElem?_cons_zero, List.getElem?_cons_succ] at r0 r1 r2 r3
      clear y0 y1 y2 y3 k0 k1 k2 k3 zy zk
      generalize (((v6.setCell ⟨w.heap.size, 0, none⟩ (.int .i64 0)).setCell ⟨w.heap.size, 1, none⟩ (.int .i64 0)).setCell ⟨w.heap.size, 2, none⟩ (.int .i64 0)).setCell ⟨w.heap.size, 3, none⟩ (.int .i64 0) = v7 at *
      refine bodyPost_ret (by simp [results, Try.results89, go_sem, r0, r1, r2, r3]; try rfl) rfl ?_
      exact Ret.of (by rw [FIN.out (), if_pos (.inr (.inr (.inr q4)))]; rfl) HQ.out
    have q4' : (1 : Int) ≤ (f : Int) := by omega
    go_wp2_with fail
    have HR := Lib.hid (set4 HY.out (.int .i64 (e : Int)) (.int .i64 (sd : Int)) (.int .i64 (z : Int)) (.int .i64 (f : Int)))
    have HQ := Lib.hid (HB1.out.trans (below4 (B := w.heap.size) (HT6.out.mono (Nat.le_of_lt (lt_of_heap HBLK.out))) (Nat.le_refl _) (.int .i64 (e : Int)) (.int .i64 (sd : Int)) (.int .i64 (z : Int)) (.int .i64 (f : Int))))
    have r0 := cell_of HR.out 0
    have r1 := cell_of HR.out 1
    have r2 := cell_of HR.out 2
    have r3 := cell_of HR.out 3
    simp only [List.getElem?_toArray, List.getElem?_cons_zero, List.getElem?_cons_succ] at r0 r1 r2 r3
    clear y0 y1 y2 y3 k0 k1 k2 k3 zy zk
    generalize (((v6.setCell ⟨w.heap.size, 0, none⟩ (.int .i64 (e : Int))).setCell ⟨w.heap.size, 1, none⟩ (.int .i64 (sd : Int))).setCell ⟨w.heap.size, 2, none⟩ (.int .i64 (z : Int))).setCell ⟨w.heap.size, 3, none⟩ (.int .i64 (f : Int)) = v7 at *
    refine bodyPost_ret (by simp [results, Try.results89, go_sem, r0, r1, r2, r3]; try rfl) rfl ?_
    exact Ret.of (by rw [FIN.out (), if_neg (by rintro (h | h | h | h) <;> omega)]; rfl) HQ.out

end Go.Proofs.Ytkapmpngglibjaa
