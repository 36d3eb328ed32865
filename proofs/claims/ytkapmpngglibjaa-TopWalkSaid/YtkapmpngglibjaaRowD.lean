/- slices.Insert, Delete and Clone over changes. Conditions: each contract's own premises. -/
import Derived.Test.YtkapmpngglibjaaFl
import Derived.Test.YtkapmpngglibjaaRowC
namespace Go.Proofs.Ytkapmpngglibjaa
open Go Go.RowKit

theorem info64 : (Try.prog.info? 64).map (fun i => (i.zero, i.size, i.bytes)) = some (some (.agg #[.string ⟨#[]⟩, .string ⟨#[]⟩, .bool false]), 3, 40) := by kernel_rfl
theorem size64 : (Try.prog.info? 64).map (·.size) = some 3 := by kernel_rfl
theorem sizeOf64 (w : World) : (sizeOf 64).run Try.prog w = .ok 3 w := by kernel_rfl
theorem zeroOf64 (w : World) : (zeroValue 64).run Try.prog w = .ok (.agg #[.string ⟨#[]⟩, .string ⟨#[]⟩, .bool false]) w := by kernel_rfl

set_option maxHeartbeats 2000000 in
set_option maxRecDepth 100000 in
theorem insertC_end (v : Value) (xa xc : List Value) (n gb : Nat) (w : World) (hown : w.ownsRow 0 64 3 v n xa) (hgb : w.heap[gb]? = some (.cells xc.toArray 64 (0, 0))) (hxc : xc.length = 3) (hc1 : ∀ u ∈ xc, u.oneCell' = true) (hn : n ≤ 1000) :
    Calls Try.prog 81 #[v, .int .i64 (n : Int), .slice (some ⟨gb, 0, none⟩) 1 1] w (RetV fun v' w' => w'.ownsRow 0 64 3 v' (n + 1) (xa ++ xc) ∧ Frame v.ownBlock.toList w w' ∧ (∀ k, v'.ownBlock = some k → v.ownBlock = some k ∨ w.heap.size ≤ k)) := by
  obtain ⟨i0, hi, hz0, hz1, hz2⟩ := info_parts info64
  have a0 : (0 : Int) ≤ (n : Int) := by omega
  have a1 : (n : Int) ≤ 1000 := by omega
  have hnews : ∀ j u, xc[j]? = some u → w.cell? ((⟨gb, 0, none⟩ : Addr).add j) = some u := fun j u hu => by rw [addr_add, cell_of hgb]; simpa using hu
  have fin : ∀ (v : Value), w.ownsRow 0 64 3 v n xa → ∀ (g cap : Nat) (w1 : World), w1.ownsRow 0 64 3 (.slice (some ⟨g, 0, none⟩) (n + 1) cap) (n + 1) (xa ++ xc) → w.grownBy w1 v.ownBlock → (v.ownBlock = some g ∨ g = w.heap.size) →
      (w1.ownsRow 0 64 3 (.slice (some ⟨g, 0, none⟩) (n + 1) cap) (n + 1) (xa ++ xc) ∧ Frame v.ownBlock.toList w w1 ∧ (∀ k, (Value.slice (some ⟨g, 0, none⟩) (n + 1) cap).ownBlock = some k → v.ownBlock = some k ∨ w.heap.size ≤ k)) := fun v ho g cap w1 h1 h2 h3 =>
    ⟨h1, (Frame.refl _ w).grown h2 (fun k hk => .inl (by rw [hk]; simp)), fun k hk => by
      have hk' : g = k := by simpa [Value.ownBlock] using hk
      subst hk'
      rcases h3 with h3 | h3
      · exact .inl h3
      · exact .inr (by omega)⟩
  have FIN := Lib.hid fin
  clear fin hgb
  rcases hown.2 with ⟨rfl, rfl⟩ | ⟨g, cap, cur, rfl, hbg, hg, hnc, hcm, hcs, htake⟩
  · have HN := Lib.hid hnews
    have HC := Lib.hid hc1
    clear hnews hc1 a0 a1
    go_enter Try.func81, Try.ntmps81
    go_wp2_with (at_builtin; refine wpList_append_lies _ rfl (.tmp 23) (.tmp 24) 36 rfl 0 64 i0 _ 3 40 Try.underlying36 hi hz0 hz1 hz2 rfl (by decide) (.slice none 0 0) 0 _ rfl hown ⟨gb, 0, none⟩ 1 1 xc rfl hxc HN.out HC.out (by decide) (by unfold maxLen; omega) (by omega) (Nat.zero_le _) w.heap.size rfl ?_)
    intro g cap w1 h1 h2 h3 h4
    have HF := Lib.hid (FIN.out _ hown g cap w1 h1 h2 h3)
    clear h1 h2 h3 h4
    go_wp2_with fail
    go_ret
    exact RetV.of HF.out
  · clear hg hbg hcs htake
    unfold maxLen at hcm
    have HN := Lib.hid hnews
    have HC := Lib.hid hc1
    clear hnews hc1
    have HO := Lib.hid hown
    by_cases hcn : cap = n
    · subst hcn
      clear hown
      go_enter Try.func81, Try.ntmps81
      go_wp2_with (at_builtin; refine wpList_append_lies _ rfl (.tmp 23) (.tmp 24) 36 rfl 0 64 i0 _ 3 40 Try.underlying36 hi hz0 hz1 hz2 rfl (by decide) (.slice (some ⟨g, 0, none⟩) cap cap) cap _ rfl HO.out ⟨gb, 0, none⟩ 1 1 xc rfl hxc HN.out HC.out (by decide) (by unfold maxLen; omega) (by omega) (Nat.zero_le _) w.heap.size rfl ?_)
      intro g' cap' w1 h1 h2 h3 h4
      have HF := Lib.hid (FIN.out _ HO.out g' cap' w1 h1 h2 h3)
      clear h1 h2 h3 h4
      go_wp2_with fail
      go_ret
      exact RetV.of HF.out
    · clear hown
      go_enter Try.func81, Try.ntmps81
      go_wp2_with (at_builtin; refine wpList_append_lies _ rfl (.tmp 23) (.tmp 24) 36 rfl 0 64 i0 _ 3 40 Try.underlying36 hi hz0 hz1 hz2 rfl (by decide) (.slice (some ⟨g, 0, none⟩) n cap) n _ rfl HO.out ⟨gb, 0, none⟩ 1 1 xc rfl hxc HN.out HC.out (by decide) (by unfold maxLen; omega) (by omega) (Nat.zero_le _) w.heap.size rfl ?_)
      intro g' cap' w1 h1 h2 h3 h4
      have HF := Lib.hid (FIN.out _ HO.out g' cap' w1 h1 h2 h3)
      clear h1 h2 h3 h4
      go_wp2_with fail
      go_ret
      exact RetV.of HF.out

set_option maxHeartbeats 2000000 in
set_option maxRecDepth 100000 in
theorem insertC_grow (g : Nat) (xa xb xc : List Value) (i n gb : Nat) (w : World) (hxa : xa.length = i * 3) (hown : w.ownsRow 0 64 3 (.slice (some ⟨g, 0, none⟩) n n) n (xa ++ xb)) (hin : i < n)
    (hgb : w.heap[gb]? = some (.cells xc.toArray 64 (0, 0))) (hxc : xc.length = 3) (hc1 : ∀ u ∈ xc, u.oneCell' = true) (hb1 : ∀ u ∈ xb, u.oneCell' = true) (hn : n ≤ 1000) :
    Calls Try.prog 81 #[.slice (some ⟨g, 0, none⟩) n n, .int .i64 (i : Int), .slice (some ⟨gb, 0, none⟩) 1 1] w
      (RetV fun v' w' => ∃ cap, v' = .slice (some ⟨w.heap.size, 0, none⟩) (n + 1) cap ∧ w'.ownsRow 0 64 3 v' (n + 1) (xa ++ xc ++ xb) ∧ Frame [] w w') := by
  obtain ⟨i0, hi, hz0, hz1, hz2⟩ := info_parts info64
  obtain ⟨cur, hg, hnc, hcm, hcl, htk, hxl, -⟩ := owns_block hown
  have hxb : xb.length = (n - i) * 3 := by simp only [List.length_append] at hxl; omega
  have hxall : (xa ++ xb).length = n * 3 := hxl
  have hcur : cur = xa ++ xb := by rw [← htk, List.take_of_length_le (by omega)]
  subst hcur
  have a0 : (0 : Int) ≤ (n : Int) := by omega
  have a1 : (n : Int) ≤ 1000 := by omega
  have b0 : (0 : Int) ≤ (i : Int) := by omega
  have b1 : (i : Int) < (n : Int) := by omega
  have b2 : ¬ (n = i) := by omega
  have b3 : ¬ (n = 0) := by omega
  have b4 : ¬ ((i : Int) = (n : Int)) := by omega
  have hA : ∀ j u, xa[j]? = some u → w.cell? ((⟨g, 0, none⟩ : Addr).add j) = some u := fun j u hu => by
    rw [addr_add, cell_of hg, List.getElem?_toArray, List.getElem?_append_left (List.getElem?_eq_some_iff.1 hu).1]; exact hu
  have HA := Lib.hid hA
  have HG := Lib.hid hg
  have HGB := Lib.hid hgb
  have H1 := Lib.hid hc1
  have H2 := Lib.hid hb1
  have HXB := Lib.hid hxb
  have HXA := Lib.hid hxa
  have HXC := Lib.hid hxc
  have HXL := Lib.hid hxl
  have hlt := lt_of_heap hg
  have hltb := lt_of_heap hgb
  clear hA hg hgb hc1 hb1 hxb hxa hxc hxl htk hown hcm hnc hcl hxall
  go_enter Try.func81, Try.ntmps81
  go_wp2_with (at_builtin; refine wpList_append_zerosK rfl (.tmp 34) (.tmp 39) 36 3 rfl 64 i0 _ 3 40 .i64 .i64 Try.underlying36 Try.underlying3 hi hz0 hz1 hz2 rfl (by decide) ⟨g, 0, none⟩ i n (n + 1 - i) rfl ?_ xa HXA.out HA.out (by omega) (n + 1) (by omega) (by omega) (by unfold maxLen; omega) (by omega) ?_)
  · show Value.int .i64 ((n : Int) + 1 - (i : Int)) = _
    exact congrArg _ (by omega)
  intro cap tail w1 c1 c2 htl hg1 hf1 hs1
  unfold maxLen at c2
  have HG1 := Lib.hid hg1
  have HTL := Lib.hid htl
  have HGB1 := Lib.hid (hf1.heap HGB.out (by simp))
  have HF1 := Lib.hid hf1
  have b5 : ¬ (cap = i) := by omega
  have b6 : ¬ (cap = i + 1) := by omega
  clear hg1 htl hf1
  go_wp2_with (with_reducible refine wpList_copyK rfl (.tmp 43) (.tmp 44) 36 36 rfl 64 3 Try.underlying36 size64 (some ⟨w.heap.size, i * 3, none⟩) (some ⟨gb, 0, none⟩) (n + 1 - i) (cap - i) 1 1 rfl rfl w.heap.size (i * 3) (xa ++ tail) 64 HG1.out 1 (Nat.min_eq_left (by omega)) xc HXC.out ?_ ?_ H1.out ?_)
  · intro j u hu
    rw [cell_of HGB1.out]
    simpa using hu
  · rw [HXC.out, List.length_append, HXA.out]
    have := HTL.out
    rw [HXA.out] at this
    omega
  intro w2 hg2 hf2 hs2
  have HG2 := Lib.hid hg2
  have HF2 := Lib.hid (HF1.out.then' hf2 (by simp))
  have HGS := Lib.hid (HF2.out.heap HG.out (by simp))
  clear hg2 hf2
  go_wp2_with fail
  have hwr : IntKind.i64.wrap ((i : Int) + 1) = (i : Int) + 1 := IntWalk.i64_in _ (by omega)
  have hp0 : (0 : Int) ≤ (i : Int) + 1 := by omega
  have hp1 : ((i : Int) + 1).toNat = i + 1 := by omega
  have hp2 : (i : Int) + 1 ≤ (n : Int) + 1 := by omega
  have hp3 : (i : Int) ≤ (n : Int) := by omega
  have hp4 : i ≤ n := by omega
  refine wp_region_plan (fun _ => True) 95 [([0, 1, 2, 5, 6, 3, 7, 4], [8], false)] (by kernel_rfl) (by kernel_rfl) ?_
  apply wpStages_last
  case hT => trivial
  case hn => exact Nat.le_refl _
  case hq =>
    intro w3 _
    simp only [picked, List.filterMap_cons, List.filterMap_nil, List.getElem?_cons_zero, List.getElem?_cons_succ]
    repeat still_step
    exact wpStill_nil rfl
  simp only [picked, List.filterMap_cons, List.filterMap_nil, List.getElem?_cons_zero, List.getElem?_cons_succ]
  clear hwr hp0 hp1 hp2 hp3 hp4
  refine wpList_copyK rfl (.tmp 50) (.tmp 53) 36 36 rfl 64 3 Try.underlying36 size64 _ _ _ _ _ _ rfl rfl w.heap.size ((i + 1) * 3) _ 64 HG2.out (n - i) ?_ xb HXB.out ?_ ?_ H2.out ?_
  · exact Nat.min_self _
  · refine fun _ => ⟨rfl, _, rfl, fun j u hu => ?_⟩
    rw [add_off]
    have h1 := cell_of HGS.out (i * 3 + j)
    rw [← HXA.out, List.getElem?_toArray, List.getElem?_append_right (by omega), Nat.add_sub_cancel_left, hu, HXA.out] at h1
    exact h1
  · have h1 := HTL.out
    rw [HXA.out] at h1
    rw [lay_length _ _ _ (by rw [HXC.out, List.length_append, HXA.out]; omega), HXB.out, List.length_append, HXA.out]
    omega
  intro w3 hg3 hf3 hs3
  have hfin : w3.ownsRow 0 64 3 (.slice (some ⟨w.heap.size, 0, none⟩) (n + 1) cap) (n + 1) (xa ++ xc ++ xb) ∧ Frame [] w w3 := by
    have h1 := HTL.out
    rw [HXA.out] at h1
    have e1 : (xa ++ tail).length = cap * 3 := by rw [List.length_append, HXA.out]; omega
    have e2 : (lay (xa ++ tail) (i * 3) xc).length = cap * 3 := by rw [lay_length _ _ _ (by rw [HXC.out, e1]; omega), e1]
    have e3 : (i + 1) * 3 + xb.length = (n + 1) * 3 := by rw [HXB.out]; omega
    refine ⟨owns_of_block hg3 (by omega) (by unfold maxLen; omega) (by rw [lay_length _ _ _ (by rw [e2, e3]; omega), e2]) ?_ (Nat.zero_le _), HF2.out.then' hf3.drew' (by simp)⟩
    rw [← e3, lay_take_end _ _ _ (by rw [e2, e3]; omega), show (i + 1) * 3 = i * 3 + xc.length by rw [HXC.out]; omega, lay_take_end _ _ _ (by rw [HXC.out, e1]; omega), ← HXA.out, List.take_left]
  have HFIN := Lib.hid hfin
  clear hfin hg3 hf3
  refine wpList_nil (OnlyNormal.mk ?_)
  go_wp2_with fail
  go_ret
  exact RetV.of ⟨_, rfl, HFIN.out⟩

set_option maxHeartbeats 2000000 in
set_option maxRecDepth 100000 in
theorem insertC_room (g : Nat) (xa xb xc : List Value) (i n cap gb : Nat) (w : World) (hxa : xa.length = i * 3) (hown : w.ownsRow 0 64 3 (.slice (some ⟨g, 0, none⟩) n cap) n (xa ++ xb)) (hin : i < n) (hcap : n < cap)
    (hgb : w.heap[gb]? = some (.cells xc.toArray 64 (0, 0))) (hxc : xc.length = 3) (hc1 : ∀ u ∈ xc, u.oneCell' = true) (hb1 : ∀ u ∈ xb, u.oneCell' = true) (hne : g ≠ gb) (hn : n ≤ 1000) :
    Calls Try.prog 81 #[.slice (some ⟨g, 0, none⟩) n cap, .int .i64 (i : Int), .slice (some ⟨gb, 0, none⟩) 1 1] w
      (RetV fun v' w' => v' = .slice (some ⟨g, 0, none⟩) (n + 1) cap ∧ w'.ownsRow 0 64 3 v' (n + 1) (xa ++ xc ++ xb) ∧ Frame [g] w w') := by
  obtain ⟨cur, hg, hnc, hcm, hcl, htk, hxl, -⟩ := owns_block hown
  have hxb : xb.length = (n - i) * 3 := by simp only [List.length_append] at hxl; omega
  have hxall : (xa ++ xb).length = n * 3 := hxl
  have a0 : (0 : Int) ≤ (n : Int) := by omega
  have a1 : (n : Int) ≤ 1000 := by omega
  have b0 : (0 : Int) ≤ (i : Int) := by omega
  have b1 : (i : Int) < (n : Int) := by omega
  have b2 : ¬ (n = i) := by omega
  have b3 : ¬ (n = 0) := by omega
  have b4 : ¬ ((i : Int) = (n : Int)) := by omega
  have b5 : ¬ (cap = i) := by omega
  have b6 : ¬ (cap = i + 1) := by omega
  have b7 : (n : Int) + 1 ≤ (cap : Int) := by omega
  have b8 : (cap : Int) ≤ 9223372036854775807 := by unfold maxLen at hcm; omega
  have b9 : ¬ (cap = 0) := by omega
  have hov : (callFunc 103 #[.slice (some ⟨gb, 0, none⟩) 1 1, .slice (some ⟨g, (i + 1) * 3, none⟩) (n - i) (cap - (i + 1))]).run Try.prog w = .ok (.value (.bool false)) w := by
    rw [run_callFunc_extern Try.func103 (by kernel_rfl) (by kernel_rfl) (by kernel_rfl) (e := Extern.SlicesOverlaps.overlaps #[36, 36] #[4]) (by kernel_rfl),
      Lib.run_overlaps_apart w 36 4 64 Try.underlying36 3 sizeOf64 ⟨gb, 0, none⟩ ⟨g, (i + 1) * 3, none⟩ 1 1 (n - i) (cap - (i + 1)) (fun h => hne h.symm) 64 64 _ _ (shape_of hgb) (shape_of hg) (by simp [hcl]; omega) (frozen_of hgb 0) (frozen_of hgb _)]
    rfl
  have HG := Lib.hid hg
  have HGB := Lib.hid hgb
  have H1 := Lib.hid hc1
  have H2 := Lib.hid hb1
  have HXB := Lib.hid hxb
  have HXA := Lib.hid hxa
  have HXC := Lib.hid hxc
  have HTK := Lib.hid htk
  have HCL := Lib.hid hcl
  clear hg hgb hc1 hb1 hxb hxa hxc hxl htk hown hcm hnc hcl hxall
  go_enter Try.func81, Try.ntmps81
  go_wp2_with (simp only [hov])
  have hwr : IntKind.i64.wrap ((i : Int) + 1) = (i : Int) + 1 := IntWalk.i64_in _ (by omega)
  have hp0 : (0 : Int) ≤ (i : Int) + 1 := by omega
  have hp1 : ((i : Int) + 1).toNat = i + 1 := by omega
  have hp2 : (i : Int) + 1 ≤ (n : Int) + 1 := by omega
  have hp3 : (i : Int) ≤ (n : Int) + 1 := by omega
  have hp4 : i ≤ n + 1 := by omega
  refine wp_region_plan (fun _ => True) 95 [([0, 1, 2, 5, 6, 3, 7, 4], [8], false)] (by kernel_rfl) (by kernel_rfl) ?_
  apply wpStages_last
  case hT => trivial
  case hn => exact Nat.le_refl _
  case hq =>
    intro w3 _
    simp only [picked, List.filterMap_cons, List.filterMap_nil, List.getElem?_cons_zero, List.getElem?_cons_succ]
    repeat still_step
    exact wpStill_nil rfl
  simp only [picked, List.filterMap_cons, List.filterMap_nil, List.getElem?_cons_zero, List.getElem?_cons_succ]
  clear hwr hp0 hp1 hp2 hp3 hp4
  have hfit : (i + 1) * 3 + xb.length ≤ cur.length := by rw [HXB.out, HCL.out]; omega
  refine wpList_copyK rfl (.tmp 73) (.tmp 76) 36 36 rfl 64 3 Try.underlying36 size64 _ _ _ _ _ _ rfl rfl g ((i + 1) * 3) _ 64 HG.out (n - i) ?_ xb HXB.out ?_ hfit H2.out ?_
  · exact Nat.min_eq_right (by omega)
  · refine fun _ => ⟨rfl, _, rfl, fun j u hu => ?_⟩
    rw [add_off]
    have h1 := cell_of (show w.drew.heap[g]? = _ from HG.out) (i * 3 + j)
    rw [h1, List.getElem?_toArray]
    refine getElem_of_take HTK.out _ _ ?_
    rw [← HXA.out, List.getElem?_append_right (by omega), Nat.add_sub_cancel_left]
    exact hu
  intro w1 hg1 hf1 hs1
  have HG1 := Lib.hid hg1
  have HF1 := Lib.hid hf1.drew'
  have HGB1 := Lib.hid (hf1.drew'.heap HGB.out (by simpa using fun h => hne h.symm))
  have HFIT := Lib.hid hfit
  clear hg1 hf1 hfit
  refine wpList_nil (OnlyNormal.mk ?_)
  go_wp2_with (with_reducible refine wpList_copyK rfl (.tmp 80) (.tmp 81) 36 36 rfl 64 3 Try.underlying36 size64 (some ⟨g, i * 3, none⟩) (some ⟨gb, 0, none⟩) (n + 1 - i) (cap - i) 1 1 rfl rfl g (i * 3) _ 64 HG1.out 1 (Nat.min_eq_left (by omega)) xc HXC.out ?_ ?_ H1.out ?_)
  · intro j u hu
    rw [cell_of HGB1.out]
    simpa using hu
  · rw [lay_length _ _ _ HFIT.out, HXC.out, HCL.out]
    omega
  intro w2 hg2 hf2 hs2
  have hfin : w2.ownsRow 0 64 3 (.slice (some ⟨g, 0, none⟩) (n + 1) cap) (n + 1) (xa ++ xc ++ xb) ∧ Frame [g] w w2 := by
    have e1 : (lay cur ((i + 1) * 3) xb).length = cap * 3 := by rw [lay_length _ _ _ HFIT.out, HCL.out]
    have e2 : i * 3 + xc.length = (i + 1) * 3 := by rw [HXC.out]; omega
    have e3 : (i + 1) * 3 + xb.length = (n + 1) * 3 := by rw [HXB.out]; omega
    refine ⟨owns_of_block hg2 (by omega) (by unfold maxLen; omega) (by rw [lay_length _ _ _ (by rw [e1, e2]; omega), e1]) ?_ (Nat.zero_le _), HF1.out.trans hf2⟩
    have e4 : xa = cur.take (i * 3) := by
      have h := HTK.out
      have h2 : (cur.take (n * 3)).take (i * 3) = xa := by rw [h, ← HXA.out, List.take_left]
      rw [← h2, List.take_take, Nat.min_eq_left (by omega)]
    have e5 : (lay cur ((i + 1) * 3) xb).take (i * 3) = xa := by rw [lay_take _ _ _ _ HFIT.out (by omega), ← e4]
    have e6 : (lay cur ((i + 1) * 3) xb).drop ((i + 1) * 3) = xb ++ cur.drop ((n + 1) * 3) := by
      have h7 : (cur.take ((i + 1) * 3)).length = (i + 1) * 3 := by rw [List.length_take, HCL.out]; omega
      rw [lay, e3, List.drop_left' h7]
    rw [lay, e5, e2, e6, ← e3, ← e2, ← HXA.out, ← List.append_assoc, ← List.append_assoc]
    rw [show xa.length + xc.length + xb.length = (xa ++ xc ++ xb).length by simp only [List.length_append], List.take_left]
  have HFIN := Lib.hid hfin
  clear hfin hg2 hf2
  go_wp2_with fail
  go_ret
  exact RetV.of ⟨rfl, HFIN.out⟩

set_option maxHeartbeats 2000000 in
set_option maxRecDepth 100000 in
theorem deleteC_mid (g : Nat) (xa xb xc : List Value) (i n cap : Nat) (w : World) (hxa : xa.length = i * 3) (hown : w.ownsRow 0 64 3 (.slice (some ⟨g, 0, none⟩) n cap) n (xa ++ xc ++ xb)) (hin : i < n)
    (hxc : xc.length = 3) (hb1 : ∀ u ∈ xb, u.oneCell' = true) (hn : n ≤ 1000) (b11 : ¬ (cap = i + 1)) :
    Calls Try.prog 80 #[.slice (some ⟨g, 0, none⟩) n cap, .int .i64 (i : Int), .int .i64 ((i : Int) + 1)] w
      (RetV fun v' w' => v' = .slice (some ⟨g, 0, none⟩) (n - 1) cap ∧ w'.ownsRow 0 64 3 v' (n - 1) (xa ++ xb) ∧ Frame [g] w w') := by
  obtain ⟨cur, hg, hnc, hcm, hcl, htk, hxl, -⟩ := owns_block hown
  have hxb : xb.length = (n - (i + 1)) * 3 := by simp only [List.length_append] at hxl; omega
  have a0 : (0 : Int) ≤ (n : Int) := by omega
  have a1 : (n : Int) ≤ 1000 := by omega
  have b0 : (0 : Int) ≤ (i : Int) := by omega
  have b1 : (i : Int) < (n : Int) := by omega
  have b2 : ¬ (n = i) := by omega
  have b4 : ¬ ((i : Int) = (i : Int) + 1) := by omega
  have b8 : (cap : Int) ≤ 9223372036854775807 := by unfold maxLen at hcm; omega
  have b9 : ¬ (cap = 0) := by omega
  have b10 : (n : Int) ≤ (cap : Int) := by omega
  have b12 : ¬ (cap = n - 1) := by omega
  have b13 : ((n - 1 : Nat) : Int) ≤ (n : Int) := by omega
  have b14 : (0 : Int) ≤ ((n - 1 : Nat) : Int) := by omega
  have HG := Lib.hid hg
  have H2 := Lib.hid hb1
  have HXB := Lib.hid hxb
  have HXA := Lib.hid hxa
  have HXC := Lib.hid hxc
  have HTK := Lib.hid htk
  have HCL := Lib.hid hcl
  clear hg hb1 hxb hxa hxc hxl htk hown hcm hnc hcl
  go_enter Try.func80, Try.ntmps80
  go_wp2_with fail
  have hp0 : (0 : Int) ≤ (i : Int) + 1 := by omega
  have hp1 : ((i : Int) + 1).toNat = i + 1 := by omega
  have hp2 : (i : Int) + 1 ≤ (n : Int) := by omega
  have hp3 : (i : Int) ≤ (cap : Int) := by omega
  have hp4 : i ≤ cap := by omega
  refine wp_region_plan (fun _ => True) 33 [([0, 1, 3, 4, 2, 5], [6], true), ([], [7], false)] (by kernel_rfl) (by kernel_rfl) ?_
  apply wpStages_keep
  case hT => trivial
  case hn => exact Nat.le_refl _
  case hq =>
    intro w3 _
    simp only [picked, List.filterMap_cons, List.filterMap_nil, List.getElem?_cons_zero, List.getElem?_cons_succ]
    repeat still_step
    exact wpStill_nil rfl
  simp only [picked, List.filterMap_cons, List.filterMap_nil, List.getElem?_cons_zero, List.getElem?_cons_succ]
  clear hp0 hp1 hp2 hp3 hp4
  have hfit : i * 3 + xb.length ≤ cur.length := by rw [HXB.out, HCL.out]; omega
  refine wpList_append_roomK rfl (.tmp 22) (.tmp 25) 36 rfl 64 3 Try.underlying36 size64 g i cap rfl _ _ _ rfl _ 64 HG.out xb HXB.out ?_ H2.out (n - 1) (by omega) (by omega) hfit ?_
  · intro hpos
    refine ⟨⟨g, (i + 1) * 3, none⟩, rfl, fun j u hu => ?_⟩
    rw [add_off]
    have h1 := cell_of (show w.drew.heap[g]? = _ from HG.out) ((i + 1) * 3 + j)
    rw [h1, List.getElem?_toArray]
    refine getElem_of_take HTK.out _ _ ?_
    have e : (xa ++ xc).length = (i + 1) * 3 := by rw [List.length_append, HXA.out, HXC.out]; omega
    rw [← e, List.getElem?_append_right (by omega), Nat.add_sub_cancel_left]
    exact hu
  intro w1 hg1 hf1 hs1
  have HG1 := Lib.hid hg1
  have HF1 := Lib.hid hf1.drew'
  have HFIT := Lib.hid hfit
  clear hg1 hf1 hfit
  refine wpList_nil (OnlyNormal.mk ⟨trivial, ?_⟩)
  apply wpStages_seq
  simp only [picked, List.filterMap_cons, List.filterMap_nil, List.getElem?_cons_zero, List.getElem?_cons_succ]
  go_wp2_with fail
  refine OnlyNormal.mk (wpStages_nil ?_)
  go_wp2_with (with_reducible refine wpList_clearK rfl (.tmp 31) 36 rfl 64 _ Try.underlying36 zeroOf64 _ _ _ rfl g ((n - 1) * 3) _ 64 HG1.out [.string ⟨#[]⟩, .string ⟨#[]⟩, .bool false] ?_ ?_ ?_ (by simp [Value.oneCell']) ?_)
  · rw [show n - (n - 1) = 1 by omega]
    exact (zeroCells_one _).trans rfl
  · rw [lay_length _ _ _ HFIT.out, HCL.out]
    simp only [List.length_cons, List.length_nil]
    omega
  intro w2 hg2 hf2 hs2
  have hfin : w2.ownsRow 0 64 3 (.slice (some ⟨g, 0, none⟩) (n - 1) cap) (n - 1) (xa ++ xb) ∧ Frame [g] w w2 := by
    have e1 : (lay cur (i * 3) xb).length = cap * 3 := by rw [lay_length _ _ _ HFIT.out, HCL.out]
    have e3 : i * 3 + xb.length = (n - 1) * 3 := by rw [HXB.out]; omega
    refine ⟨owns_of_block hg2 (by omega) (by unfold maxLen; omega) (by rw [lay_length _ _ _ (by rw [e1]; simp only [List.length_cons, List.length_nil]; omega), e1]) ?_ (Nat.zero_le _), HF1.out.trans hf2⟩
    have e4 : xa = cur.take (i * 3) := by
      have h := HTK.out
      have h2 : (cur.take (n * 3)).take (i * 3) = xa := by rw [h, List.append_assoc, ← HXA.out, List.take_left]
      rw [← h2, List.take_take, Nat.min_eq_left (by omega)]
    rw [lay_take _ _ _ _ (by rw [e1]; simp only [List.length_cons, List.length_nil]; omega) (Nat.le_refl _), ← e3, lay_take_end _ _ _ HFIT.out, ← e4]
  have HFIN := Lib.hid hfin
  clear hfin hg2 hf2
  go_wp2_with fail
  go_ret
  exact RetV.of ⟨rfl, HFIN.out⟩

set_option maxHeartbeats 2000000 in
set_option maxRecDepth 100000 in
theorem deleteC_last (g : Nat) (xa xc : List Value) (i : Nat) (w : World) (hxa : xa.length = i * 3) (hown : w.ownsRow 0 64 3 (.slice (some ⟨g, 0, none⟩) (i + 1) (i + 1)) (i + 1) (xa ++ xc)) (hn : i ≤ 1000) :
    Calls Try.prog 80 #[.slice (some ⟨g, 0, none⟩) (i + 1) (i + 1), .int .i64 (i : Int), .int .i64 ((i : Int) + 1)] w
      (RetV fun v' w' => v' = .slice (some ⟨g, 0, none⟩) i (i + 1) ∧ w'.ownsRow 0 64 3 v' i xa ∧ Frame [g] w w') := by
  obtain ⟨cur, hg, hnc, hcm, hcl, htk, hxl, -⟩ := owns_block hown
  have a0 : (0 : Int) ≤ (i : Int) := by omega
  have a1 : (i : Int) ≤ 1000 := by omega
  have b4 : ¬ ((i : Int) = (i : Int) + 1) := by omega
  have b5 : ¬ (i + 1 = i) := by omega
  have b6 : ¬ (i = i + 1) := by omega
  have HG := Lib.hid hg
  have HXA := Lib.hid hxa
  have HTK := Lib.hid htk
  have HCL := Lib.hid hcl
  clear hg hxa hxl htk hown hcm hnc hcl
  go_enter Try.func80, Try.ntmps80
  go_wp2_with fail
  have hp0 : (0 : Int) ≤ (i : Int) + 1 := by omega
  have hp1 : ((i : Int) + 1).toNat = i + 1 := by omega
  have hp2 : (i : Int) ≤ (i : Int) + 1 := by omega
  have hp4 : i ≤ i + 1 := by omega
  refine wp_region_plan (fun _ => True) 33 [([0, 1, 3, 4, 2, 5], [6], true), ([], [7], false)] (by kernel_rfl) (by kernel_rfl) ?_
  apply wpStages_keep
  case hT => trivial
  case hn => exact Nat.le_refl _
  case hq =>
    intro w3 _
    simp only [picked, List.filterMap_cons, List.filterMap_nil, List.getElem?_cons_zero, List.getElem?_cons_succ]
    repeat still_step
    exact wpStill_nil rfl
  simp only [picked, List.filterMap_cons, List.filterMap_nil, List.getElem?_cons_zero, List.getElem?_cons_succ]
  clear hp0 hp1 hp2 hp4
  refine wpList_append_roomK rfl (.tmp 22) (.tmp 25) 36 rfl 64 3 Try.underlying36 size64 g i (i + 1) rfl (some ⟨g, 0, none⟩) 0 0 rfl _ 64 HG.out [] rfl ?_ (by simp) i (by omega) (by omega) (by simp only [List.length_nil]; rw [HCL.out]; omega) ?_
  · intro hpos
    exact absurd hpos (Nat.lt_irrefl _)
  intro w1 hg1 hf1 hs1
  rw [lay_nil] at hg1
  have HG1 := Lib.hid hg1
  have HF1 := Lib.hid hf1.drew'
  clear hg1 hf1
  refine wpList_nil (OnlyNormal.mk ⟨trivial, ?_⟩)
  apply wpStages_seq
  simp only [picked, List.filterMap_cons, List.filterMap_nil, List.getElem?_cons_zero, List.getElem?_cons_succ]
  go_wp2_with fail
  refine OnlyNormal.mk (wpStages_nil ?_)
  go_wp2_with (with_reducible refine wpList_clearK rfl (.tmp 31) 36 rfl 64 _ Try.underlying36 zeroOf64 _ _ _ rfl g (i * 3) _ 64 HG1.out [.string ⟨#[]⟩, .string ⟨#[]⟩, .bool false] ?_ ?_ ?_ (by simp [Value.oneCell']) ?_)
  · exact (zeroCells_one _).trans rfl
  · rw [HCL.out]
    simp only [List.length_cons, List.length_nil]
    omega
  intro w2 hg2 hf2 hs2
  have hfin : w2.ownsRow 0 64 3 (.slice (some ⟨g, 0, none⟩) i (i + 1)) i xa ∧ Frame [g] w w2 := by
    have e4 : xa = cur.take (i * 3) := by
      have h := HTK.out
      have h2 : (cur.take ((i + 1) * 3)).take (i * 3) = xa := by rw [h, ← HXA.out, List.take_left]
      rw [← h2, List.take_take, Nat.min_eq_left (by omega)]
    have e5 : i * 3 + [Value.string ⟨#[]⟩, .string ⟨#[]⟩, .bool false].length ≤ cur.length := by rw [HCL.out]; simp only [List.length_cons, List.length_nil]; omega
    exact ⟨owns_of_block hg2 (by omega) (by unfold maxLen; omega) (by rw [lay_length _ _ _ e5, HCL.out]) (by rw [lay_take _ _ _ _ e5 (Nat.le_refl _), ← e4]) (Nat.zero_le _), HF1.out.trans hf2⟩
  have HFIN := Lib.hid hfin
  clear hfin hg2 hf2
  go_wp2_with fail
  go_ret
  exact RetV.of ⟨rfl, HFIN.out⟩

/-- slices.Insert of one element, wherever it comes. -/
theorem insertC_any (v : Value) (xa xb xc : List Value) (i n gb : Nat) (w : World) (hxa : xa.length = i * 3) (hown : w.ownsRow 0 64 3 v n (xa ++ xb)) (hin : i ≤ n)
    (hgb : w.heap[gb]? = some (.cells xc.toArray 64 (0, 0))) (hxc : xc.length = 3) (hc1 : ∀ u ∈ xc, u.oneCell' = true) (hb1 : ∀ u ∈ xb, u.oneCell' = true) (hne : v.ownBlock ≠ some gb) (hn : n ≤ 1000) :
    Calls Try.prog 81 #[v, .int .i64 (i : Int), .slice (some ⟨gb, 0, none⟩) 1 1] w
      (RetV fun v' w' => w'.ownsRow 0 64 3 v' (n + 1) (xa ++ xc ++ xb) ∧ Frame v.ownBlock.toList w w' ∧ (∀ k, v'.ownBlock = some k → v.ownBlock = some k ∨ w.heap.size ≤ k)) := by
  rcases Nat.lt_or_eq_of_le hin with hlt | rfl
  · obtain ⟨g, cap, cur, rfl, -, hg, hnc, hcm, hcs, htk⟩ := owns_open hown (by omega)
    by_cases hcap : cap = n
    · subst hcap
      refine (insertC_grow g xa xb xc i cap gb w hxa hown hlt hgb hxc hc1 hb1 hn).mono ?_
      rintro e w' ⟨v', rfl, c, rfl, h1, h2⟩
      refine RetV.of ⟨h1, h2.mono (by simp), fun k hk => .inr ?_⟩
      have : w.heap.size = k := by simpa [Value.ownBlock] using hk
      omega
    · refine (insertC_room g xa xb xc i n cap gb w hxa hown hlt (by omega) hgb hxc hc1 hb1 (fun h => hne (by rw [← h]; rfl)) hn).mono ?_
      rintro e w' ⟨v', rfl, rfl, h1, h2⟩
      exact RetV.of ⟨h1, h2, fun k hk => .inl hk⟩
  · obtain rfl : xb = [] := by
      have := hown.1
      rw [List.length_append] at this
      exact List.eq_nil_of_length_eq_zero (by omega)
    rw [List.append_nil] at hown
    rw [List.append_nil]
    exact insertC_end v xa xc i gb w hown hgb hxc hc1 hn

/-- slices.Delete of one element. -/
theorem deleteC_any (v : Value) (xa xb xc : List Value) (i n : Nat) (w : World) (hxa : xa.length = i * 3) (hown : w.ownsRow 0 64 3 v n (xa ++ xc ++ xb)) (hin : i < n)
    (hxc : xc.length = 3) (hb1 : ∀ u ∈ xb, u.oneCell' = true) (hn : n ≤ 1000) :
    Calls Try.prog 80 #[v, .int .i64 (i : Int), .int .i64 ((i : Int) + 1)] w
      (RetV fun v' w' => v'.ownBlock = v.ownBlock ∧ w'.ownsRow 0 64 3 v' (n - 1) (xa ++ xb) ∧ Frame v.ownBlock.toList w w') := by
  obtain ⟨g, cap, cur, rfl, -, hg, hnc, hcm, hcs, htk⟩ := owns_open hown (by omega)
  by_cases hcap : cap = i + 1
  · subst hcap
    obtain rfl : n = i + 1 := by omega
    obtain rfl : xb = [] := by
      have := hown.1
      rw [List.length_append, List.length_append] at this
      exact List.eq_nil_of_length_eq_zero (by omega)
    rw [List.append_nil] at hown
    refine (deleteC_last g xa xc i w hxa hown (by omega)).mono ?_
    rintro e w' ⟨v', rfl, rfl, h1, h2⟩
    rw [List.append_nil]
    exact RetV.of ⟨rfl, h1, h2⟩
  · refine (deleteC_mid g xa xb xc i n cap w hxa hown hin hxc hb1 hn hcap).mono ?_
    rintro e w' ⟨v', rfl, rfl, h1, h2⟩
    exact RetV.of ⟨rfl, h1, h2⟩

set_option maxHeartbeats 2000000 in
set_option maxRecDepth 100000 in
theorem cloneC_any (v : Value) (rows : List (List Value)) (w : World) (h : SliceAt w v rows 3) (hl : ∀ r ∈ rows, r.length = 3) (h1 : ∀ u ∈ rows.flatten, u.oneCell' = true) (hn : rows.length ≤ 1000) :
    Calls Try.prog 76 #[v] w (RetV fun v' w' => w'.ownsRow w.heap.size 64 3 v' rows.length rows.flatten ∧ Below w.heap.size w w') := by
  obtain ⟨i0, hi, hz0, hz1, hz2⟩ := info_parts info64
  have e0 : (w.alloc (.cells #[] 64)).ownsRow w.heap.size 64 3 (.slice (some ⟨w.heap.size, 0, none⟩) 0 0) 0 [] := ⟨rfl, .inr ⟨w.heap.size, 0, #[], rfl, Nat.le_refl _, heap_alloc_new w _, Nat.le_refl _, Nat.zero_le _, rfl, rfl⟩⟩
  have E0 := Lib.hid e0
  clear e0
  by_cases h0 : rows.length = 0
  · obtain rfl := List.eq_nil_of_length_eq_zero h0
    obtain ⟨ao, cap, rfl, -, -⟩ := h
    cases ao with
    | none =>
      have hnil := fun (w : World) => Lib.run_eql_slice_nil (P := Try.prog) w 36 64 none 0 cap 0 0 Try.underlying36
      clear h1 hl hn h0
      go_enter Try.func76, Try.ntmps76
      go_wp2_with fail
      go_ret
      exact RetV.of ⟨World.ownsRow_nil _ _ _ _, Below.refl _ _⟩
    | some a =>
      have hnil := fun (w : World) => Lib.run_eql_slice_nil (P := Try.prog) w 36 64 (some a) 0 cap 0 0 Try.underlying36
      clear h1 hl hn h0
      go_enter Try.func76, Try.ntmps76
      go_wp2_with (at_builtin; refine wpList_append_own _ rfl (.tmp 5) (.tmp 6) 36 rfl w.heap.size 64 i0 _ 3 40 Try.underlying36 hi hz0 hz1 hz2 rfl (by decide) (.slice (some ⟨w.heap.size, 0, none⟩) 0 0) 0 [] rfl E0.out a 0 cap [] rfl rfl (by simp) (by simp) (by unfold maxLen; omega) (by omega) (by rw [size_alloc]; omega) ?_)
      intro v' w' ho hg _
      have HF := Lib.hid (And.intro ho (((Below.refl _ w).alloc (Nat.le_refl _) (.cells #[] 64)).grown hg (by rw [size_alloc]; omega) (fun k hk => by cases hk; exact Nat.le_refl _)))
      clear ho hg
      go_wp2_with fail
      go_ret
      exact RetV.of HF.out
  · obtain ⟨b, off, cap, rfl, hc⟩ := h.flat hl (by omega)
    have hnil := fun (w : World) => Lib.run_eql_slice_nil (P := Try.prog) w 36 64 (some ⟨b, off, none⟩) rows.length cap 0 0 Try.underlying36
    have hfl := flatten_length rows hl
    have hblt : ∀ j u, rows.flatten[j]? = some u → (w.alloc (.cells #[] 64)).cell? ((⟨b, off, none⟩ : Addr).add j) = some u := fun j u hu => (World.cell?_of_block (heap_alloc_old w _ (World.block_lt_of_cell? w _ (hc j u hu)))).trans (hc j u hu)
    have HC := Lib.hid hblt
    have H1 := Lib.hid h1
    have HFL := Lib.hid hfl
    clear hblt hc h1 hfl h hl
    generalize rows.length = n at *
    generalize rows.flatten = fl at *
    go_enter Try.func76, Try.ntmps76
    go_wp2_with (at_builtin; refine wpList_append_own _ rfl (.tmp 5) (.tmp 6) 36 rfl w.heap.size 64 i0 _ 3 40 Try.underlying36 hi hz0 hz1 hz2 rfl (by decide) (.slice (some ⟨w.heap.size, 0, none⟩) 0 0) 0 [] rfl E0.out ⟨b, off, none⟩ n cap fl rfl HFL.out HC.out H1.out (by unfold maxLen; omega) (by omega) (by rw [size_alloc]; omega) ?_)
    intro v' w' ho hg _
    have HF := Lib.hid (And.intro ho (((Below.refl _ w).alloc (Nat.le_refl _) (.cells #[] 64)).grown hg (by rw [size_alloc]; omega) (fun k hk => by cases hk; exact Nat.le_refl _)))
    clear ho hg
    go_wp2_with fail
    go_ret
    exact RetV.of HF.out

end Go.Proofs.Ytkapmpngglibjaa
