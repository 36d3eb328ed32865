/- slices.Insert and Clone over the nodes below a node. Conditions: each contract's own premises. -/
import Derived.Test.YtkapmpngglibjaaRowD
import Derived.ArgAppend
namespace Go.Proofs.Ytkapmpngglibjaa
open Go Go.RowKit

theorem info115 : (Try.prog.info? 115).map (fun i => (i.zero, i.size, i.bytes)) = some (some (.pointer none), 1, 8) := by kernel_rfl
theorem size115 : (Try.prog.info? 115).map (·.size) = some 1 := by kernel_rfl
theorem sizeOf115 (w : World) : (sizeOf 115).run Try.prog w = .ok 1 w := by kernel_rfl

set_option maxHeartbeats 2000000 in
set_option maxRecDepth 100000 in
theorem insertN_end (v : Value) (xa xc : List Value) (n gb : Nat) (w : World) (hown : w.ownsRow 0 115 1 v n xa) (hgb : w.heap[gb]? = some (.cells xc.toArray 115 (0, 0))) (hxc : xc.length = 1) (hc1 : ∀ u ∈ xc, u.oneCell' = true) (hn : n ≤ 1000) :
    Calls Try.prog 97 #[v, .int .i64 (n : Int), .slice (some ⟨gb, 0, none⟩) 1 1] w (RetV fun v' w' => w'.ownsRow 0 115 1 v' (n + 1) (xa ++ xc) ∧ Frame v.ownBlock.toList w w' ∧ (∀ k, v'.ownBlock = some k → v.ownBlock = some k ∨ w.heap.size ≤ k)) := by
  obtain ⟨i0, hi, hz0, hz1, hz2⟩ := info_parts info115
  have a0 : (0 : Int) ≤ (n : Int) := by omega
  have a1 : (n : Int) ≤ 1000 := by omega
  have hnews : ∀ j u, xc[j]? = some u → w.cell? ((⟨gb, 0, none⟩ : Addr).add j) = some u := fun j u hu => by rw [addr_add, cell_of hgb]; simpa using hu
  have fin : ∀ (v : Value), w.ownsRow 0 115 1 v n xa → ∀ (g cap : Nat) (w1 : World), w1.ownsRow 0 115 1 (.slice (some ⟨g, 0, none⟩) (n + 1) cap) (n + 1) (xa ++ xc) → w.grownBy w1 v.ownBlock → (v.ownBlock = some g ∨ g = w.heap.size) →
      (w1.ownsRow 0 115 1 (.slice (some ⟨g, 0, none⟩) (n + 1) cap) (n + 1) (xa ++ xc) ∧ Frame v.ownBlock.toList w w1 ∧ (∀ k, (Value.slice (some ⟨g, 0, none⟩) (n + 1) cap).ownBlock = some k → v.ownBlock = some k ∨ w.heap.size ≤ k)) := fun v ho g cap w1 h1 h2 h3 =>
    ⟨h1, (Frame.refl _ w).grown h2 (fun k hk => .inl (by rw [hk]; simp)), fun k hk => by
      have hk' : g = k := by simpa [Value.ownBlock] using hk
      subst hk'
      rcases h3 with h3 | h3
      · exact .inl h3
      · exact .inr (by omega)⟩
  have FIN := Lib.hid fin
  clear fin hgb
  rcases hown.2 with ⟨rfl, rfl⟩ | ⟨g, cap, cur, rfl, hbg, hg, hnc, hcm, hcs, htake⟩
  · have HN := Lib.hid hnews
    have HC := Lib.hid hc1
    clear hnews hc1 a0 a1
    go_enter Try.func97, Try.ntmps97
    go_wp2_with (at_builtin; refine wpList_append_lies _ rfl (.tmp 23) (.tmp 24) 117 rfl 0 115 i0 _ 1 8 Try.underlying117 hi hz0 hz1 hz2 rfl (by decide) (.slice none 0 0) 0 _ rfl hown ⟨gb, 0, none⟩ 1 1 xc rfl hxc HN.out HC.out (by decide) (by unfold maxLen; omega) (by omega) (Nat.zero_le _) w.heap.size rfl ?_)
    intro g cap w1 h1 h2 h3 h4
    have HF := Lib.hid (FIN.out _ hown g cap w1 h1 h2 h3)
    clear h1 h2 h3 h4
    go_wp2_with fail
    go_ret
    exact RetV.of HF.out
  · clear hg hbg hcs htake
    unfold maxLen at hcm
    have HN := Lib.hid hnews
    have HC := Lib.hid hc1
    clear hnews hc1
    have HO := Lib.hid hown
    by_cases hcn : cap = n
    · subst hcn
      clear hown
      go_enter Try.func97, Try.ntmps97
      go_wp2_with (at_builtin; refine wpList_append_lies _ rfl (.tmp 23) (.tmp 24) 117 rfl 0 115 i0 _ 1 8 Try.underlying117 hi hz0 hz1 hz2 rfl (by decide) (.slice (some ⟨g, 0, none⟩) cap cap) cap _ rfl HO.out ⟨gb, 0, none⟩ 1 1 xc rfl hxc HN.out HC.out (by decide) (by unfold maxLen; omega) (by omega) (Nat.zero_le _) w.heap.size rfl ?_)
      intro g' cap' w1 h1 h2 h3 h4
      have HF := Lib.hid (FIN.out _ HO.out g' cap' w1 h1 h2 h3)
      clear h1 h2 h3 h4
      go_wp2_with fail
      go_ret
      exact RetV.of HF.out
    · clear hown
      go_enter Try.func97, Try.ntmps97
      go_wp2_with (at_builtin; refine wpList_append_lies _ rfl (.tmp 23) (.tmp 24) 117 rfl 0 115 i0 _ 1 8 Try.underlying117 hi hz0 hz1 hz2 rfl (by decide) (.slice (some ⟨g, 0, none⟩) n cap) n _ rfl HO.out ⟨gb, 0, none⟩ 1 1 xc rfl hxc HN.out HC.out (by decide) (by unfold maxLen; omega) (by omega) (Nat.zero_le _) w.heap.size rfl ?_)
      intro g' cap' w1 h1 h2 h3 h4
      have HF := Lib.hid (FIN.out _ HO.out g' cap' w1 h1 h2 h3)
      clear h1 h2 h3 h4
      go_wp2_with fail
      go_ret
      exact RetV.of HF.out

set_option maxHeartbeats 2000000 in
set_option maxRecDepth 100000 in
theorem insertN_grow (g : Nat) (xa xb xc : List Value) (i n gb : Nat) (w : World) (hxa : xa.length = i) (hown : w.ownsRow 0 115 1 (.slice (some ⟨g, 0, none⟩) n n) n (xa ++ xb)) (hin : i < n)
    (hgb : w.heap[gb]? = some (.cells xc.toArray 115 (0, 0))) (hxc : xc.length = 1) (hc1 : ∀ u ∈ xc, u.oneCell' = true) (hb1 : ∀ u ∈ xb, u.oneCell' = true) (hn : n ≤ 1000) :
    Calls Try.prog 97 #[.slice (some ⟨g, 0, none⟩) n n, .int .i64 (i : Int), .slice (some ⟨gb, 0, none⟩) 1 1] w
      (RetV fun v' w' => ∃ cap, v' = .slice (some ⟨w.heap.size, 0, none⟩) (n + 1) cap ∧ w'.ownsRow 0 115 1 v' (n + 1) (xa ++ xc ++ xb) ∧ Frame [] w w') := by
  obtain ⟨i0, hi, hz0, hz1, hz2⟩ := info_parts info115
  obtain ⟨cur, hg, hnc, hcm, hcl, htk, hxl, -⟩ := owns_block hown
  simp only [Nat.mul_one] at hcl htk hxl
  have hxb : xb.length = (n - i) := by simp only [List.length_append] at hxl; omega
  have hxall : (xa ++ xb).length = n := hxl
  have hcur : cur = xa ++ xb := by rw [← htk, List.take_of_length_le (by omega)]
  subst hcur
  have a0 : (0 : Int) ≤ (n : Int) := by omega
  have a1 : (n : Int) ≤ 1000 := by omega
  have b0 : (0 : Int) ≤ (i : Int) := by omega
  have b1 : (i : Int) < (n : Int) := by omega
  have b2 : ¬ (n = i) := by omega
  have b3 : ¬ (n = 0) := by omega
  have b4 : ¬ ((i : Int) = (n : Int)) := by omega
  have hA : ∀ j u, xa[j]? = some u → w.cell? ((⟨g, 0, none⟩ : Addr).add j) = some u := fun j u hu => by
    rw [addr_add, cell_of hg, List.getElem?_toArray, List.getElem?_append_left (List.getElem?_eq_some_iff.1 hu).1]; exact hu
  have HA := Lib.hid hA
  have HG := Lib.hid hg
  have HGB := Lib.hid hgb
  have H1 := Lib.hid hc1
  have H2 := Lib.hid hb1
  have HXB := Lib.hid hxb
  have HXA := Lib.hid hxa
  have HXC := Lib.hid hxc
  have HXL := Lib.hid hxl
  have hlt := lt_of_heap hg
  have hltb := lt_of_heap hgb
  clear hA hg hgb hc1 hb1 hxb hxa hxc hxl htk hown hcm hnc hcl hxall
  go_enter Try.func97, Try.ntmps97
  go_wp2_with (at_builtin; refine wpList_append_zerosK rfl (.tmp 34) (.tmp 39) 117 3 rfl 115 i0 _ 1 8 .i64 .i64 Try.underlying117 Try.underlying3 hi hz0 hz1 hz2 rfl (by decide) ⟨g, 0, none⟩ i n (n + 1 - i) rfl ?_ xa (by rw [Nat.mul_one]; exact HXA.out) HA.out (by omega) (n + 1) (by omega) (by omega) (by unfold maxLen; omega) (by omega) ?_)
  · show Value.int .i64 ((n : Int) + 1 - (i : Int)) = _
    exact congrArg _ (by omega)
  intro cap tail w1 c1 c2 htl hg1 hf1 hs1
  unfold maxLen at c2
  have HG1 := Lib.hid hg1
  have HTL := Lib.hid htl
  have HGB1 := Lib.hid (hf1.heap HGB.out (by simp))
  have HF1 := Lib.hid hf1
  have b5 : ¬ (cap = i) := by omega
  have b6 : ¬ (cap = i + 1) := by omega
  clear hg1 htl hf1
  go_wp2_with (with_reducible refine wpList_copyK rfl (.tmp 43) (.tmp 44) 117 117 rfl 115 1 Try.underlying117 size115 (some ⟨w.heap.size, i, none⟩) (some ⟨gb, 0, none⟩) (n + 1 - i) (cap - i) 1 1 rfl rfl w.heap.size (i) (xa ++ tail) 115 HG1.out 1 (Nat.min_eq_left (by omega)) xc HXC.out ?_ ?_ H1.out ?_)
  · intro j u hu
    rw [cell_of HGB1.out]
    simpa using hu
  · rw [HXC.out, List.length_append, HXA.out]
    have := HTL.out
    rw [HXA.out] at this
    omega
  intro w2 hg2 hf2 hs2
  have HG2 := Lib.hid hg2
  have HF2 := Lib.hid (HF1.out.then' hf2 (by simp))
  have HGS := Lib.hid (HF2.out.heap HG.out (by simp))
  clear hg2 hf2
  go_wp2_with fail
  have hwr : IntKind.i64.wrap ((i : Int) + 1) = (i : Int) + 1 := IntWalk.i64_in _ (by omega)
  have hp0 : (0 : Int) ≤ (i : Int) + 1 := by omega
  have hp1 : ((i : Int) + 1).toNat = i + 1 := by omega
  have hp2 : (i : Int) + 1 ≤ (n : Int) + 1 := by omega
  have hp3 : (i : Int) ≤ (n : Int) := by omega
  have hp4 : i ≤ n := by omega
  refine wp_region_plan (fun _ => True) 95 [([0, 1, 2, 5, 6, 3, 7, 4], [8], false)] (by kernel_rfl) (by kernel_rfl) ?_
  apply wpStages_last
  case hT => trivial
  case hn => exact Nat.le_refl _
  case hq =>
    intro w3 _
    simp only [picked, List.filterMap_cons, List.filterMap_nil, List.getElem?_cons_zero, List.getElem?_cons_succ]
    repeat still_step
    exact wpStill_nil rfl
  simp only [picked, List.filterMap_cons, List.filterMap_nil, List.getElem?_cons_zero, List.getElem?_cons_succ]
  clear hwr hp0 hp1 hp2 hp3 hp4
  refine wpList_copyK rfl (.tmp 50) (.tmp 53) 117 117 rfl 115 1 Try.underlying117 size115 _ _ _ _ _ _ rfl rfl w.heap.size ((i + 1)) _ 115 HG2.out (n - i) ?_ xb (by rw [Nat.mul_one]; exact HXB.out) ?_ ?_ H2.out ?_
  · exact Nat.min_self _
  · refine fun _ => ⟨rfl, _, rfl, fun j u hu => ?_⟩
    rw [add_off]
    have h1 := cell_of HGS.out (i + j)
    rw [← HXA.out, List.getElem?_toArray, List.getElem?_append_right (by omega), Nat.add_sub_cancel_left, hu, HXA.out] at h1
    exact h1
  · have h1 := HTL.out
    rw [HXA.out] at h1
    rw [lay_length _ _ _ (by rw [HXC.out, List.length_append, HXA.out]; omega), HXB.out, List.length_append, HXA.out]
    omega
  intro w3 hg3 hf3 hs3
  have hfin : w3.ownsRow 0 115 1 (.slice (some ⟨w.heap.size, 0, none⟩) (n + 1) cap) (n + 1) (xa ++ xc ++ xb) ∧ Frame [] w w3 := by
    have h1 := HTL.out
    rw [HXA.out] at h1
    have e1 : (xa ++ tail).length = cap := by rw [List.length_append, HXA.out]; omega
    have e2 : (lay (xa ++ tail) (i) xc).length = cap := by rw [lay_length _ _ _ (by rw [HXC.out, e1]; omega), e1]
    have e3 : (i + 1) + xb.length = (n + 1) := by rw [HXB.out]; omega
    refine ⟨owns_of_block hg3 (by omega) (by unfold maxLen; omega) (by rw [lay_length _ _ _ (by rw [e2, e3]; omega), e2, Nat.mul_one]) ?_ (Nat.zero_le _), HF2.out.then' hf3.drew' (by simp)⟩
    rw [Nat.mul_one, ← e3, lay_take_end _ _ _ (by rw [e2, e3]; omega), show (i + 1) = i + xc.length by have := HXC.out; omega, lay_take_end _ _ _ (by rw [HXC.out, e1]; omega), ← HXA.out, List.take_left]
  have HFIN := Lib.hid hfin
  clear hfin hg3 hf3
  refine wpList_nil (OnlyNormal.mk ?_)
  go_wp2_with fail
  go_ret
  exact RetV.of ⟨_, rfl, HFIN.out⟩

set_option maxHeartbeats 2000000 in
set_option maxRecDepth 100000 in
theorem insertN_room (g : Nat) (xa xb xc : List Value) (i n cap gb : Nat) (w : World) (hxa : xa.length = i) (hown : w.ownsRow 0 115 1 (.slice (some ⟨g, 0, none⟩) n cap) n (xa ++ xb)) (hin : i < n) (hcap : n < cap)
    (hgb : w.heap[gb]? = some (.cells xc.toArray 115 (0, 0))) (hxc : xc.length = 1) (hc1 : ∀ u ∈ xc, u.oneCell' = true) (hb1 : ∀ u ∈ xb, u.oneCell' = true) (hne : g ≠ gb) (hn : n ≤ 1000) :
    Calls Try.prog 97 #[.slice (some ⟨g, 0, none⟩) n cap, .int .i64 (i : Int), .slice (some ⟨gb, 0, none⟩) 1 1] w
      (RetV fun v' w' => v' = .slice (some ⟨g, 0, none⟩) (n + 1) cap ∧ w'.ownsRow 0 115 1 v' (n + 1) (xa ++ xc ++ xb) ∧ Frame [g] w w') := by
  obtain ⟨cur, hg, hnc, hcm, hcl, htk, hxl, -⟩ := owns_block hown
  simp only [Nat.mul_one] at hcl htk hxl
  have hxb : xb.length = (n - i) := by simp only [List.length_append] at hxl; omega
  have hxall : (xa ++ xb).length = n := hxl
  have a0 : (0 : Int) ≤ (n : Int) := by omega
  have a1 : (n : Int) ≤ 1000 := by omega
  have b0 : (0 : Int) ≤ (i : Int) := by omega
  have b1 : (i : Int) < (n : Int) := by omega
  have b2 : ¬ (n = i) := by omega
  have b3 : ¬ (n = 0) := by omega
  have b4 : ¬ ((i : Int) = (n : Int)) := by omega
  have b5 : ¬ (cap = i) := by omega
  have b6 : ¬ (cap = i + 1) := by omega
  have b7 : (n : Int) + 1 ≤ (cap : Int) := by omega
  have b8 : (cap : Int) ≤ 9223372036854775807 := by unfold maxLen at hcm; omega
  have b9 : ¬ (cap = 0) := by omega
  have hov : (callFunc 112 #[.slice (some ⟨gb, 0, none⟩) 1 1, .slice (some ⟨g, (i + 1), none⟩) (n - i) (cap - (i + 1))]).run Try.prog w = .ok (.value (.bool false)) w := by
    rw [run_callFunc_extern Try.func112 (by kernel_rfl) (by kernel_rfl) (by kernel_rfl) (e := Extern.SlicesOverlaps.overlaps #[117, 117] #[4]) (by kernel_rfl),
      Lib.run_overlaps_apart w 117 4 115 Try.underlying117 1 sizeOf115 ⟨gb, 0, none⟩ ⟨g, (i + 1), none⟩ 1 1 (n - i) (cap - (i + 1)) (fun h => hne h.symm) 115 115 _ _ (shape_of hgb) (shape_of hg) (by simp [hcl]; omega) (frozen_of hgb 0) (frozen_of hgb _)]
    rfl
  have HG := Lib.hid hg
  have HGB := Lib.hid hgb
  have H1 := Lib.hid hc1
  have H2 := Lib.hid hb1
  have HXB := Lib.hid hxb
  have HXA := Lib.hid hxa
  have HXC := Lib.hid hxc
  have HTK := Lib.hid htk
  have HCL := Lib.hid hcl
  clear hg hgb hc1 hb1 hxb hxa hxc hxl htk hown hcm hnc hcl hxall
  go_enter Try.func97, Try.ntmps97
  go_wp2_with (simp only [hov])
  have hwr : IntKind.i64.wrap ((i : Int) + 1) = (i : Int) + 1 := IntWalk.i64_in _ (by omega)
  have hp0 : (0 : Int) ≤ (i : Int) + 1 := by omega
  have hp1 : ((i : Int) + 1).toNat = i + 1 := by omega
  have hp2 : (i : Int) + 1 ≤ (n : Int) + 1 := by omega
  have hp3 : (i : Int) ≤ (n : Int) + 1 := by omega
  have hp4 : i ≤ n + 1 := by omega
  refine wp_region_plan (fun _ => True) 95 [([0, 1, 2, 5, 6, 3, 7, 4], [8], false)] (by kernel_rfl) (by kernel_rfl) ?_
  apply wpStages_last
  case hT => trivial
  case hn => exact Nat.le_refl _
  case hq =>
    intro w3 _
    simp only [picked, List.filterMap_cons, List.filterMap_nil, List.getElem?_cons_zero, List.getElem?_cons_succ]
    repeat still_step
    exact wpStill_nil rfl
  simp only [picked, List.filterMap_cons, List.filterMap_nil, List.getElem?_cons_zero, List.getElem?_cons_succ]
  clear hwr hp0 hp1 hp2 hp3 hp4
  have hfit : (i + 1) + xb.length ≤ cur.length := by rw [HXB.out, HCL.out]; omega
  refine wpList_copyK rfl (.tmp 73) (.tmp 76) 117 117 rfl 115 1 Try.underlying117 size115 _ _ _ _ _ _ rfl rfl g ((i + 1)) _ 115 HG.out (n - i) ?_ xb (by rw [Nat.mul_one]; exact HXB.out) ?_ hfit H2.out ?_
  · exact Nat.min_eq_right (by omega)
  · refine fun _ => ⟨rfl, _, rfl, fun j u hu => ?_⟩
    rw [add_off]
    have h1 := cell_of (show w.drew.heap[g]? = _ from HG.out) (i + j)
    rw [h1, List.getElem?_toArray]
    refine getElem_of_take HTK.out _ _ ?_
    rw [← HXA.out, List.getElem?_append_right (by omega), Nat.add_sub_cancel_left]
    exact hu
  intro w1 hg1 hf1 hs1
  have HG1 := Lib.hid hg1
  have HF1 := Lib.hid hf1.drew'
  have HGB1 := Lib.hid (hf1.drew'.heap HGB.out (by simpa using fun h => hne h.symm))
  have HFIT := Lib.hid hfit
  clear hg1 hf1 hfit
  refine wpList_nil (OnlyNormal.mk ?_)
  go_wp2_with (with_reducible refine wpList_copyK rfl (.tmp 80) (.tmp 81) 117 117 rfl 115 1 Try.underlying117 size115 (some ⟨g, i, none⟩) (some ⟨gb, 0, none⟩) (n + 1 - i) (cap - i) 1 1 rfl rfl g (i) _ 115 HG1.out 1 (Nat.min_eq_left (by omega)) xc HXC.out ?_ ?_ H1.out ?_)
  · intro j u hu
    rw [cell_of HGB1.out]
    simpa using hu
  · rw [lay_length _ _ _ HFIT.out, HXC.out, HCL.out]
    omega
  intro w2 hg2 hf2 hs2
  have hfin : w2.ownsRow 0 115 1 (.slice (some ⟨g, 0, none⟩) (n + 1) cap) (n + 1) (xa ++ xc ++ xb) ∧ Frame [g] w w2 := by
    have e1 : (lay cur ((i + 1)) xb).length = cap := by rw [lay_length _ _ _ HFIT.out, HCL.out]
    have e2 : i + xc.length = (i + 1) := by have := HXC.out; omega
    have e3 : (i + 1) + xb.length = (n + 1) := by rw [HXB.out]; omega
    refine ⟨owns_of_block hg2 (by omega) (by unfold maxLen; omega) (by rw [lay_length _ _ _ (by rw [e1, e2]; omega), e1, Nat.mul_one]) ?_ (Nat.zero_le _), HF1.out.trans hf2⟩
    have e4 : xa = cur.take (i) := by
      have h := HTK.out
      have h2 : (cur.take (n)).take (i) = xa := by rw [h, ← HXA.out, List.take_left]
      rw [← h2, List.take_take, Nat.min_eq_left (by omega)]
    have e5 : (lay cur ((i + 1)) xb).take (i) = xa := by rw [lay_take _ _ _ _ HFIT.out (by omega), ← e4]
    have e6 : (lay cur ((i + 1)) xb).drop ((i + 1)) = xb ++ cur.drop ((n + 1)) := by
      have h7 : (cur.take ((i + 1))).length = (i + 1) := by rw [List.length_take, HCL.out]; omega
      rw [lay, e3, List.drop_left' h7]
    rw [Nat.mul_one, lay, e5, e2, e6, ← e3, ← e2, ← HXA.out, ← List.append_assoc, ← List.append_assoc]
    rw [show xa.length + xc.length + xb.length = (xa ++ xc ++ xb).length by simp only [List.length_append], List.take_left]
  have HFIN := Lib.hid hfin
  clear hfin hg2 hf2
  go_wp2_with fail
  go_ret
  exact RetV.of ⟨rfl, HFIN.out⟩

/-- slices.Insert of one element, wherever it comes. -/
theorem insertN_any (v : Value) (xa xb xc : List Value) (i n gb : Nat) (w : World) (hxa : xa.length = i) (hown : w.ownsRow 0 115 1 v n (xa ++ xb)) (hin : i ≤ n)
    (hgb : w.heap[gb]? = some (.cells xc.toArray 115 (0, 0))) (hxc : xc.length = 1) (hc1 : ∀ u ∈ xc, u.oneCell' = true) (hb1 : ∀ u ∈ xb, u.oneCell' = true) (hne : v.ownBlock ≠ some gb) (hn : n ≤ 1000) :
    Calls Try.prog 97 #[v, .int .i64 (i : Int), .slice (some ⟨gb, 0, none⟩) 1 1] w
      (RetV fun v' w' => w'.ownsRow 0 115 1 v' (n + 1) (xa ++ xc ++ xb) ∧ Frame v.ownBlock.toList w w' ∧ (∀ k, v'.ownBlock = some k → v.ownBlock = some k ∨ w.heap.size ≤ k)) := by
  rcases Nat.lt_or_eq_of_le hin with hlt | rfl
  · obtain ⟨g, cap, cur, rfl, -, hg, hnc, hcm, hcs, htk⟩ := owns_open hown (by omega)
    by_cases hcap : cap = n
    · subst hcap
      refine (insertN_grow g xa xb xc i cap gb w hxa hown hlt hgb hxc hc1 hb1 hn).mono ?_
      rintro e w' ⟨v', rfl, c, rfl, h1, h2⟩
      refine RetV.of ⟨h1, h2.mono (by simp), fun k hk => .inr ?_⟩
      have : w.heap.size = k := by simpa [Value.ownBlock] using hk
      omega
    · refine (insertN_room g xa xb xc i n cap gb w hxa hown hlt (by omega) hgb hxc hc1 hb1 (fun h => hne (by rw [← h]; rfl)) hn).mono ?_
      rintro e w' ⟨v', rfl, rfl, h1, h2⟩
      exact RetV.of ⟨h1, h2, fun k hk => .inl hk⟩
  · obtain rfl : xb = [] := by
      have := hown.1
      rw [List.length_append] at this
      exact List.eq_nil_of_length_eq_zero (by omega)
    rw [List.append_nil] at hown
    rw [List.append_nil]
    exact insertN_end v xa xc i gb w hown hgb hxc hc1 hn

set_option maxHeartbeats 2000000 in
set_option maxRecDepth 100000 in
theorem cloneN_any (v : Value) (rows : List (List Value)) (w : World) (h : SliceAt w v rows 1) (hl : ∀ r ∈ rows, r.length = 1) (h1 : ∀ u ∈ rows.flatten, u.oneCell' = true) (hn : rows.length ≤ 1000) :
    Calls Try.prog 96 #[v] w (RetV fun v' w' => w'.ownsRow w.heap.size 115 1 v' rows.length rows.flatten ∧ Below w.heap.size w w') := by
  obtain ⟨i0, hi, hz0, hz1, hz2⟩ := info_parts info115
  have e0 : (w.alloc (.cells #[] 115)).ownsRow w.heap.size 115 1 (.slice (some ⟨w.heap.size, 0, none⟩) 0 0) 0 [] := ⟨rfl, .inr ⟨w.heap.size, 0, #[], rfl, Nat.le_refl _, heap_alloc_new w _, Nat.le_refl _, Nat.zero_le _, rfl, rfl⟩⟩
  have E0 := Lib.hid e0
  clear e0
  by_cases h0 : rows.length = 0
  · obtain rfl := List.eq_nil_of_length_eq_zero h0
    obtain ⟨ao, cap, rfl, -, -⟩ := h
    cases ao with
    | none =>
      have hnil := fun (w : World) => Lib.run_eql_slice_nil (P := Try.prog) w 117 115 none 0 cap 0 0 Try.underlying117
      clear h1 hl hn h0
      go_enter Try.func96, Try.ntmps96
      go_wp2_with fail
      go_ret
      exact RetV.of ⟨World.ownsRow_nil _ _ _ _, Below.refl _ _⟩
    | some a =>
      have hnil := fun (w : World) => Lib.run_eql_slice_nil (P := Try.prog) w 117 115 (some a) 0 cap 0 0 Try.underlying117
      clear h1 hl hn h0
      go_enter Try.func96, Try.ntmps96
      go_wp2_with (at_builtin; refine wpList_append_own _ rfl (.tmp 5) (.tmp 6) 117 rfl w.heap.size 115 i0 _ 1 8 Try.underlying117 hi hz0 hz1 hz2 rfl (by decide) (.slice (some ⟨w.heap.size, 0, none⟩) 0 0) 0 [] rfl E0.out a 0 cap [] rfl rfl (by simp) (by simp) (by unfold maxLen; omega) (by omega) (by rw [size_alloc]; omega) ?_)
      intro v' w' ho hg _
      have HF := Lib.hid (And.intro ho (((Below.refl _ w).alloc (Nat.le_refl _) (.cells #[] 115)).grown hg (by rw [size_alloc]; omega) (fun k hk => by cases hk; exact Nat.le_refl _)))
      clear ho hg
      go_wp2_with fail
      go_ret
      exact RetV.of HF.out
  · obtain ⟨b, off, cap, rfl, hc⟩ := h.flat hl (by omega)
    have hnil := fun (w : World) => Lib.run_eql_slice_nil (P := Try.prog) w 117 115 (some ⟨b, off, none⟩) rows.length cap 0 0 Try.underlying117
    have hfl := flatten_length rows hl
    have hblt : ∀ j u, rows.flatten[j]? = some u → (w.alloc (.cells #[] 115)).cell? ((⟨b, off, none⟩ : Addr).add j) = some u := fun j u hu => (World.cell?_of_block (heap_alloc_old w _ (World.block_lt_of_cell? w _ (hc j u hu)))).trans (hc j u hu)
    have HC := Lib.hid hblt
    have H1 := Lib.hid h1
    have HFL := Lib.hid hfl
    clear hblt hc h1 hfl h hl
    generalize rows.length = n at *
    generalize rows.flatten = fl at *
    go_enter Try.func96, Try.ntmps96
    go_wp2_with (at_builtin; refine wpList_append_own _ rfl (.tmp 5) (.tmp 6) 117 rfl w.heap.size 115 i0 _ 1 8 Try.underlying117 hi hz0 hz1 hz2 rfl (by decide) (.slice (some ⟨w.heap.size, 0, none⟩) 0 0) 0 [] rfl E0.out ⟨b, off, none⟩ n cap fl rfl HFL.out HC.out H1.out (by unfold maxLen; omega) (by omega) (by rw [size_alloc]; omega) ?_)
    intro v' w' ho hg _
    have HF := Lib.hid (And.intro ho (((Below.refl _ w).alloc (Nat.le_refl _) (.cells #[] 115)).grown hg (by rw [size_alloc]; omega) (fun k hk => by cases hk; exact Nat.le_refl _)))
    clear ho hg
    go_wp2_with fail
    go_ret
    exact RetV.of HF.out

end Go.Proofs.Ytkapmpngglibjaa
