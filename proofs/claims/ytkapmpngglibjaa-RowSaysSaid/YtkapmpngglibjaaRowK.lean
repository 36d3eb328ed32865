/- The law RowSays, walked. Conditions: the contract's own premises. -/
import Derived.Test.YtkapmpngglibjaaRowJ
namespace Go.Proofs.Ytkapmpngglibjaa
open Go Go.RowKit

theorem kx_fault : faultOf ⟨⟨#[107]⟩, ⟨#[120]⟩, false⟩ = 0 := by kernel_rfl
theorem kx_bytes : bytesOf ⟨⟨#[107]⟩, ⟨#[120]⟩, false⟩ = ⟨#[0, 1, 107, 120]⟩ := by kernel_rfl

set_option maxHeartbeats 1000000 in
theorem rows_any (w : World) : Calls Try.prog 32 #[] w (Ret (.bool true) fun w' => Below w.heap.size w w') := by
  go_enter Try.func32, Try.ntmps32
  go_wp2_with fail
  refine (bytes_any ⟨#[107]⟩ ⟨#[120]⟩ false w).mono ?_
  rintro e w1 ⟨rfl, hB⟩
  rw [kx_fault, kx_bytes]
  go_wp2_with fail
  refine (same_any 0 0 _).mono ?_
  rintro e w2 ⟨rfl, rfl⟩
  go_wp2_with fail
  go_ret
  exact Ret.of rfl hB

theorem sameL_refl (l : List Chg) : sameL l l = true :=
  (sameL_iff l l rfl).2 fun k a b ha hb => by rw [ha] at hb; cases hb; exact (sameChg_iff a a).2 rfl

set_option maxHeartbeats 4000000 in
set_option maxRecDepth 100000 in
theorem rowSays_any (v0 v1 : Value) (l m : List Chg) (ck cv : ByteArray) (cg : Bool) (s : ByteArray) (w : World) (h0 : ChangesAt w v0 l) (h1 : ChangesAt w v1 m) :
    Calls Try.prog 6 #[v0, v1, .agg #[.string ck, .string cv, .bool cg], .string s] w (Ret (.bool true) fun w' => Below w.heap.size w w') := by
  have HB0 := Lib.hid ((Below.refl _ w).alloc (Nat.le_refl _) (.cells #[.string ck, .string cv, .bool cg] 64))
  have H0 := Lib.hid h0
  have H1 := Lib.hid h1
  clear h0 h1
  go_enter Try.func6, Try.ntmps6
  go_wp2_with fail
  refine (rows_any _).mono ?_
  rintro e w1 ⟨rfl, hB⟩
  have HC := Lib.hid (show w1.heap[w.heap.size]? = some (.cells #[.string ck, .string cv, .bool cg] 64) by rw [hB.block _ (by rw [size_alloc]; omega), heap_alloc_new])
  have HB1 := Lib.hid (HB0.out.trans (hB.mono (by rw [size_alloc]; omega)))
  clear hB
  have c0 := cell_of HC.out 0
  have c1 := cell_of HC.out 1
  have c2 := cell_of HC.out 2
  simp only [List.getElem?_toArray, List.getElem?_cons_zero, List.getElem?_cons_succ] at c0 c1 c2
  go_wp2_with fail
  refine (lightChanges_any v0 l 70 w1 (SliceAt.below H0.out HB1.out)).mono ?_
  rintro e w2 ⟨rfl, rfl⟩
  cases hl0 : lightChanges l 70
  · go_wp2_with fail
    go_ret
    exact Ret.of rfl HB1.out
  go_wp2_with fail
  refine (lightChanges_any v1 m 20 w1 (SliceAt.below H1.out HB1.out)).mono ?_
  rintro e w2 ⟨rfl, rfl⟩
  cases hl1 : lightChanges m 20
  · go_wp2_with fail
    go_ret
    exact Ret.of rfl HB1.out
  go_wp2_with fail
  have hone : ChangesAt (w1.alloc (.cells #[.string ck, .string cv, .bool cg] 64)) (.slice (some ⟨w1.heap.size, 0, none⟩) 1 1) [⟨ck, cv, cg⟩] := by
    refine ⟨_, 1, rfl, by simp [maxLen], fun i r hi => ⟨w1.heap.size, 0, rfl, fun j u hu => ?_⟩⟩
    cases i with
    | zero =>
      simp only [List.map_cons, List.map_nil, List.getElem?_cons_zero, Option.some.injEq] at hi
      subst hi
      rw [Nat.zero_mul, Nat.zero_add]
      exact (cell_of (heap_alloc_new w1 _) j).trans (by simpa [Chg.cells] using hu)
    | succ i => simp at hi
  have HONE := Lib.hid hone
  clear hone c0 c1 c2
  have HB2 := Lib.hid (HB1.out.alloc HB1.out.size (.cells #[.string ck, .string cv, .bool cg] 64))
  have HC2 := Lib.hid ((heap_alloc_old w1 (.cells #[.string ck, .string cv, .bool cg] 64) (lt_of_heap HC.out)).trans HC.out)
  have HSZ2 := Lib.hid (size_alloc w1 (.cells #[.string ck, .string cv, .bool cg] 64))
  generalize w1.alloc (.cells #[.string ck, .string cv, .bool cg] 64) = w2 at *
  have c0 := cell_of HC2.out 0
  have c1 := cell_of HC2.out 1
  have c2 := cell_of HC2.out 2
  simp only [List.getElem?_toArray, List.getElem?_cons_zero, List.getElem?_cons_succ] at c0 c1 c2
  refine (lightChanges_any _ _ 1 w2 HONE.out).mono ?_
  rintro e w3 ⟨rfl, rfl⟩
  cases hl2 : lightChanges [⟨ck, cv, cg⟩] 1
  · go_wp2_with fail
    go_ret
    exact Ret.of rfl HB2.out
  by_cases hs : (200 : Int) < (s.size : Int)
  · go_wp2_with fail
    go_ret
    exact Ret.of rfl HB2.out
  have hs' : s.size ≤ 200 := by omega
  have HL0 := Lib.hid hl0
  have HL1 := Lib.hid hl1
  clear hl0 hl1 hl2
  go_wp2_with fail
  refine (bytes_any ck cv cg w2).mono ?_
  rintro e w3 ⟨rfl, hB3⟩
  have HB3 := Lib.hid (HB2.out.trans (hB3.mono HB2.out.size))
  have HC3 := Lib.hid ((hB3.block _ (lt_of_heap HC2.out)).trans HC2.out)
  clear hB3 c0 c1 c2
  have c0 := cell_of HC3.out 0
  have c1 := cell_of HC3.out 1
  have c2 := cell_of HC3.out 2
  simp only [List.getElem?_toArray, List.getElem?_cons_zero, List.getElem?_cons_succ] at c0 c1 c2
  generalize hby : bytesOf ⟨ck, cv, cg⟩ = by1
  generalize hfa : faultOf ⟨ck, cv, cg⟩ = fa1
  have HBY := Lib.hid hby
  have HFA := Lib.hid hfa
  clear hby hfa
  go_wp2_with fail
  refine (rbytes_any ck cv cg w3).mono ?_
  rintro e w4 ⟨rfl, hB4⟩
  rw [HBY.out, HFA.out]
  have HB4 := Lib.hid (HB3.out.trans (hB4.mono HB3.out.size))
  have HC4 := Lib.hid ((hB4.block _ (lt_of_heap HC3.out)).trans HC3.out)
  clear hB4 c0 c1 c2
  go_wp2_with fail
  refine (parse_any s w4 hs').mono ?_
  rintro e w5 ⟨rfl, hB5⟩
  have HB5 := Lib.hid (HB4.out.trans (hB5.mono HB4.out.size))
  have HC5 := Lib.hid ((hB5.block _ (lt_of_heap HC4.out)).trans HC4.out)
  clear hB5
  obtain ⟨px, hpx⟩ : ∃ px, px = parseOf s := ⟨_, rfl⟩
  rw [← hpx]
  have HPX := Lib.hid hpx
  clear hpx
  obtain ⟨⟨xk, xv, xg⟩, xf⟩ := px
  simp only [Chg.v]
  go_wp2_with fail
  refine (changeOf_any s _ hs').mono ?_
  rintro e w6 ⟨rfl, hB6⟩
  rw [← HPX.out]
  simp only [Chg.v]
  have hX6 := (hB6.block _ (by rw [size_alloc]; omega)).trans (heap_alloc_new w5 (.cells #[.string xk, .string xv, .bool xg] 64))
  have hC6 := (hB6.block _ (by rw [size_alloc]; have := lt_of_heap HC5.out; omega)).trans ((heap_alloc_old w5 (.cells #[.string xk, .string xv, .bool xg] 64) (lt_of_heap HC5.out)).trans HC5.out)
  have hBB6 : Below w.heap.size w w6 := (HB5.out.alloc HB5.out.size _).trans (hB6.mono (by rw [size_alloc]; have := HB5.out.size; omega))
  clear hB6
  have hX8 := (heap_alloc_old w6 (.cells #[.string xk, .string xv, .bool xg] 64) (lt_of_heap hX6)).trans hX6
  have hC8 := (heap_alloc_old w6 (.cells #[.string xk, .string xv, .bool xg] 64) (lt_of_heap hC6)).trans hC6
  have hY8 := heap_alloc_new w6 (.cells #[.string xk, .string xv, .bool xg] 64)
  have HB8 := Lib.hid (hBB6.alloc hBB6.size (.cells #[.string xk, .string xv, .bool xg] 64))
  obtain ⟨w8, hw8⟩ : ∃ w8, w8 = w6.alloc (.cells #[.string xk, .string xv, .bool xg] 64) := ⟨_, rfl⟩
  rw [← hw8] at hX8 hC8 hY8 HB8
  have hF8 : ∀ w2, Below w8.heap.size w8 w2 →
      (w2.cell? ⟨w.heap.size, 0, none⟩ = some (.string ck) ∧ w2.cell? ⟨w.heap.size, 1, none⟩ = some (.string cv) ∧ w2.cell? ⟨w.heap.size, 2, none⟩ = some (.bool cg)) ∧
      (w2.cell? ⟨w5.heap.size, 0, none⟩ = some (.string xk) ∧ w2.cell? ⟨w5.heap.size, 1, none⟩ = some (.string xv) ∧ w2.cell? ⟨w5.heap.size, 2, none⟩ = some (.bool xg)) ∧
      (w2.cell? ⟨w6.heap.size, 0, none⟩ = some (.string xk) ∧ w2.cell? ⟨w6.heap.size, 1, none⟩ = some (.string xv) ∧ w2.cell? ⟨w6.heap.size, 2, none⟩ = some (.bool xg)) := fun w2 hb => by
    have h1 := (hb.block _ (lt_of_heap hC8)).trans hC8
    have h2 := (hb.block _ (lt_of_heap hX8)).trans hX8
    have h3 := (hb.block _ (lt_of_heap hY8)).trans hY8
    exact ⟨⟨cell_of h1 0, cell_of h1 1, cell_of h1 2⟩, ⟨cell_of h2 0, cell_of h2 1, cell_of h2 2⟩, cell_of h3 0, cell_of h3 1, cell_of h3 2⟩
  have HF8 := Lib.hid hF8
  have HW8 := Lib.hid hw8
  clear hX6 hC6 hBB6 hX8 hC8 hY8 hF8 hw8
  go_wp2_with fail
  rw [← HW8.out]
  refine wp_region_plan (fun w2 => Below w8.heap.size w8 w2) 116 [([0, 2], [1], true), ([], [3], true), ([], [4], true), ([5, 6, 7, 8, 9, 10, 11, 12, 13, 14, 15, 16, 17, 18], [19], true), ([20, 21, 22, 23, 24], [25], true), ([26, 27], [], false)] (by kernel_rfl) (by kernel_rfl) ?_
  have hT : Below w8.heap.size w8 w8.drew := (Below.refl _ _).drew
  apply wpStages_keep
  case hT => exact hT
  case hn => exact Nat.le_refl _
  case hq =>
    intro w2 hT
    have z := HF8.out w2 hT
    obtain ⟨⟨c0, c1, c2⟩, ⟨x0, x1, x2⟩, y0, y1, y2⟩ := z
    simp only [picked, List.filterMap_cons, List.filterMap_nil, List.getElem?_cons_zero, List.getElem?_cons_succ]
    with_reducible refine wpStill_want ?hw (fun K hK => ?_)
    case hw => kernel_rfl
    (go_simp; refine hK _ ?_; clear hK K)
    with_reducible refine wpStill_want ?hw (fun K hK => ?_)
    case hw => kernel_rfl
    (go_simp; refine hK _ ?_; clear hK K)
    exact wpStill_nil rfl
  simp only [picked, List.filterMap_cons, List.filterMap_nil, List.getElem?_cons_zero, List.getElem?_cons_succ]
  go_wp2_with fail
  refine (check_any ck cv cg _).mono ?_
  rintro e w9 ⟨rfl, hB9⟩
  rw [HFA.out]
  replace hT : Below w8.heap.size w8 w9 := hT.trans (hB9.mono hT.size)
  clear hB9
  go_wp2_with fail
  refine OnlyNormal.mk ⟨hT, ?_⟩
  apply wpStages_seqkeep
  simp only [picked, List.filterMap_cons, List.filterMap_nil, List.getElem?_cons_zero, List.getElem?_cons_succ]
  go_wp2_with fail
  refine (fault_any ck cv cg _).mono ?_
  rintro e w10 ⟨rfl, hB9⟩
  rw [HFA.out]
  replace hT : Below w8.heap.size w8 w10 := hT.trans (hB9.mono hT.size)
  clear hB9
  go_wp2_with fail
  refine OnlyNormal.mk ⟨hT, ?_⟩
  apply wpStages_seqkeep
  simp only [picked, List.filterMap_cons, List.filterMap_nil, List.getElem?_cons_zero, List.getElem?_cons_succ]
  go_wp2_with fail
  refine (same_any fa1 (fa1 : Int) _).mono ?_
  rintro e w11 ⟨rfl, rfl⟩
  rw [show decide ((fa1 : Int) = (fa1 : Int)) = true from decide_eq_true rfl]
  go_wp2_with fail
  refine OnlyNormal.mk ⟨hT, ?_⟩
  apply wpStages_keep
  case hT => exact hT
  case hn => exact Nat.le_refl _
  case hq =>
    intro w2 hT
    have z := HF8.out w2 hT
    obtain ⟨⟨c0, c1, c2⟩, ⟨x0, x1, x2⟩, y0, y1, y2⟩ := z
    simp only [picked, List.filterMap_cons, List.filterMap_nil, List.getElem?_cons_zero, List.getElem?_cons_succ]
    with_reducible refine wpStill_want ?hw (fun K hK => ?_)
    case hw => kernel_rfl
    (go_simp; refine hK _ ?_; clear hK K)
    with_reducible refine wpStill_want ?hw (fun K hK => ?_)
    case hw => kernel_rfl
    (go_simp; refine hK _ ?_; clear hK K)
    with_reducible refine wpStill_want ?hw (fun K hK => ?_)
    case hw => kernel_rfl
    (go_simp; refine hK _ ?_; clear hK K)
    with_reducible refine wpStill_want ?hw (fun K hK => ?_)
    case hw => kernel_rfl
    (go_simp; refine hK _ ?_; clear hK K)
    with_reducible refine wpStill_want ?hw (fun K hK => ?_)
    case hw => kernel_rfl
    (go_simp; refine hK _ ?_; clear hK K)
    with_reducible refine wpStill_want ?hw (fun K hK => ?_)
    case hw => kernel_rfl
    (go_simp; refine hK _ ?_; clear hK K)
    with_reducible refine wpStill_want ?hw (fun K hK => ?_)
    case hw => kernel_rfl
    (go_simp; refine hK _ ?_; clear hK K)
    with_reducible refine wpStill_want ?hw (fun K hK => ?_)
    case hw => kernel_rfl
    (go_simp; refine hK _ ?_; clear hK K)
    with_reducible refine wpStill_want ?hw (fun K hK => ?_)
    case hw => kernel_rfl
    (go_simp; refine hK _ ?_; clear hK K)
    with_reducible refine wpStill_want ?hw (fun K hK => ?_)
    case hw => kernel_rfl
    (go_simp; refine hK _ ?_; clear hK K)
    with_reducible refine wpStill_want ?hw (fun K hK => ?_)
    case hw => kernel_rfl
    (go_simp; refine hK _ ?_; clear hK K)
    with_reducible refine wpStill_want ?hw (fun K hK => ?_)
    case hw => kernel_rfl
    (go_simp; refine hK _ ?_; clear hK K)
    with_reducible refine wpStill_want ?hw (fun K hK => ?_)
    case hw => kernel_rfl
    (go_simp; refine hK _ ?_; clear hK K)
    with_reducible refine wpStill_want ?hw (fun K hK => ?_)
    case hw => kernel_rfl
    (go_simp; refine hK _ ?_; clear hK K)
    exact wpStill_nil rfl
  simp only [picked, List.filterMap_cons, List.filterMap_nil, List.getElem?_cons_zero, List.getElem?_cons_succ]
  go_wp2_with fail
  refine (same_any fa1 (fa1 : Int) _).mono ?_
  rintro e w12 ⟨rfl, rfl⟩
  rw [show decide ((fa1 : Int) = (fa1 : Int)) = true from decide_eq_true rfl]
  go_wp2_with fail
  refine OnlyNormal.mk ⟨hT, ?_⟩
  apply wpStages_keep
  case hT => exact hT
  case hn => exact Nat.le_refl _
  case hq =>
    intro w2 hT
    have z := HF8.out w2 hT
    obtain ⟨⟨c0, c1, c2⟩, ⟨x0, x1, x2⟩, y0, y1, y2⟩ := z
    simp only [picked, List.filterMap_cons, List.filterMap_nil, List.getElem?_cons_zero, List.getElem?_cons_succ]
    with_reducible refine wpStill_want ?hw (fun K hK => ?_)
    case hw => kernel_rfl
    (go_simp; refine hK _ ?_; clear hK K)
    with_reducible refine wpStill_want ?hw (fun K hK => ?_)
    case hw => kernel_rfl
    (go_simp; refine hK _ ?_; clear hK K)
    with_reducible refine wpStill_want ?hw (fun K hK => ?_)
    case hw => kernel_rfl
    (go_simp; refine hK _ ?_; clear hK K)
    with_reducible refine wpStill_want ?hw (fun K hK => ?_)
    case hw => kernel_rfl
    (go_simp; refine hK _ ?_; clear hK K)
    with_reducible refine wpStill_want ?hw (fun K hK => ?_)
    case hw => kernel_rfl
    (go_simp; refine hK _ ?_; clear hK K)
    exact wpStill_nil rfl
  simp only [picked, List.filterMap_cons, List.filterMap_nil, List.getElem?_cons_zero, List.getElem?_cons_succ]
  go_wp2_with fail
  refine (same_any xf (xf : Int) _).mono ?_
  rintro e w13 ⟨rfl, rfl⟩
  rw [show decide ((xf : Int) = (xf : Int)) = true from decide_eq_true rfl]
  go_wp2_with fail
  refine OnlyNormal.mk ⟨hT, ?_⟩
  apply wpStages_last
  case hT => exact hT
  case hn => exact Nat.le_refl _
  case hq =>
    intro w2 hT
    simp only [picked, List.filterMap_cons, List.filterMap_nil, List.getElem?_cons_zero, List.getElem?_cons_succ]
    with_reducible refine wpStill_want ?hw (fun K hK => ?_)
    case hw => kernel_rfl
    (go_simp; refine hK _ ?_; clear hK K)
    with_reducible refine wpStill_want ?hw (fun K hK => ?_)
    case hw => kernel_rfl
    (go_simp; refine hK _ ?_; clear hK K)
    exact wpStill_nil rfl
  refine wpList_nil (OnlyNormal.mk ?_)
  have HB11 := Lib.hid (HB8.out.trans (hT.mono HB8.out.size))
  clear hT
  obtain ⟨ao1, cap1, rfl, hr1⟩ := H1.out.form
  have HR1 := Lib.hid hr1
  obtain ⟨n, hnn⟩ : ∃ n, n = m.length := ⟨_, rfl⟩
  rw [← hnn]
  have hn20 : n ≤ 20 := by
    have h := HL1.out
    simp only [lightChanges, Bool.and_eq_true, decide_eq_true_eq] at h
    omega
  have hl70 : l.length ≤ 70 := by
    have h := HL0.out
    simp only [lightChanges, Bool.and_eq_true, decide_eq_true_eq] at h
    omega
  have HNN := Lib.hid hnn
  have n0 : (0 : Int) ≤ (n : Int) := by omega
  have n1 : (n : Int) ≤ 20 := by omega
  clear hr1 hnn
  go_wp2_with fail
  unfold errN
  go_loopw [18] (fun i wr => ∃ k : Nat, k ≤ n ∧ i = .int .i64 (k : Int) ∧ Below w.heap.size w wr) (fun i _ => n - (intOf i).toNat)
  case atStart => exact ⟨0, Nat.zero_le _, rfl, HB11.out⟩
  case round =>
    obtain ⟨k, hk, rfl, hB⟩ := hrel
    have k0 : (0 : Int) ≤ (k : Int) := by omega
    by_cases hlt : k < n
    · have k1 : (k : Int) < (n : Int) := by omega
      obtain ⟨⟨ak, av, ag⟩, ha⟩ : ∃ a, m[k]? = some a := ⟨_, List.getElem?_eq_getElem (by rw [← HNN.out]; exact hlt)⟩
      obtain ⟨b, off, rfl, c0, c1, c2⟩ := HR1.out k _ ha
      have up : ∀ (a : Addr) (u : Value), w.cell? a = some u → wr.cell? a = some u := fun a u hu => (hB.cell (World.block_lt_of_cell? w _ hu)).trans hu
      replace c0 := up _ _ c0
      replace c1 := up _ _ c1
      replace c2 := up _ _ c2
      clear up ha
      go_wp2_with fail
      refine (fault_any ak av ag _).mono ?_
      rintro e w12 ⟨rfl, hB12⟩
      have hB13 := hB.trans (hB12.mono hB.size)
      clear hB12 c0 c1 c2
      unfold errN
      generalize faultOf ⟨ak, av, ag⟩ = fm
      by_cases hfm : 0 < fm
      · have hfm1 : (0 : Int) < (fm : Int) := by omega
        go_wp2_with fail
        go_ret
        exact Ret.of rfl hB13
      · obtain rfl : fm = 0 := by omega
        go_wp2_with fail
        exact ⟨⟨k + 1, by omega, by go_num, hB13⟩, by simp [intOf]; omega⟩
    · obtain rfl : k = n := by omega
      clear HR1
      go_wp2_with fail
      refine (goodRows_any v0 l wr (SliceAt.below H0.out hB) (by omega)).mono ?_
      rintro e w12 ⟨v, rfl, bb, rfl, hris, hB12⟩
      have hB13 := hB.trans (hB12.mono hB.size)
      have HRIS := Lib.hid hris
      clear hB12 hris
      cases bb
      · go_wp2_with fail
        go_ret
        exact Ret.of rfl hB13
      · have hri := HRIS.out rfl
        have HRI := Lib.hid hri
        have H1' := Lib.hid (show ChangesAt w (.slice ao1 k cap1) m by rw [HNN.out]; exact H1.out)
        clear hri HRIS
        go_wp2_with fail
        refine (apply_any v0 _ l m w12 (SliceAt.below H0.out hB13) (SliceAt.below H1'.out hB13) HRI.out (by rw [← HNN.out]; omega)).mono ?_
        rintro e w14 ⟨va, rfl, hoa, -, hB14⟩
        have hB15 := hB13.trans (hB14.mono hB13.size)
        have HOA := Lib.hid hoa.at
        clear hoa hB14
        go_wp2_with fail
        refine (applied_any v0 _ l m w14 (SliceAt.below H0.out hB15) (SliceAt.below H1'.out hB15) HRI.out (by rw [← HNN.out]; omega)).mono ?_
        rintro e w16 ⟨vb, rfl, hob, hB16⟩
        rw [refL_applyL _ _ HRI.out] at hob
        have HOB := Lib.hid (show ChangesAt w16 vb (applyL l m) from OwnC.at (owns_zero hob))
        have HOA2 := Lib.hid (SliceAt.below HOA.out hB16)
        have hB17 := hB15.trans (hB16.mono hB15.size)
        have HLN := Lib.hid (applyL_length m l)
        clear hob hB16
        go_wp2_with fail
        refine (same_changes va vb _ _ w16 HOA2.out HOB.out (by have := HLN.out; rw [← HNN.out] at this; omega)).mono ?_
        rintro e w18 ⟨rfl, hB18⟩
        have hB19 := hB17.trans (hB18.mono hB17.size)
        clear hB18
        rw [sameL_refl]
        go_wp2_with fail
        go_ret
        exact Ret.of rfl hB19

end Go.Proofs.Ytkapmpngglibjaa
