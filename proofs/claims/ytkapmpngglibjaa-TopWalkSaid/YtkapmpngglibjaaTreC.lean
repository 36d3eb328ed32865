/- slices.Insert into a slice that has no room left, though its block has. Conditions: each contract's own premises. -/
import Derived.Test.YtkapmpngglibjaaTreA
import Derived.Test.YtkapmpngglibjaaTreB
namespace Go.Proofs.Ytkapmpngglibjaa
open Go Go.RowKit

theorem stopHere {p : Prop} (h : True → p) : p := h trivial

/-- The head of a block: all of its room is the slice's, or the slice has no room left. -/
def HeadRow (w : World) (e : TypeId) (s : Nat) (v : Value) (n : Nat) (xs : List Value) : Prop :=
  w.ownsRow 0 e s v n xs ∨ ∃ g xt, v = .slice (some ⟨g, 0, none⟩) n n ∧ w.heap[g]? = some (.cells (xs ++ xt).toArray e (0, 0)) ∧ xs.length = n * s ∧ 0 < n

theorem HeadRow.frame {X : List Nat} {w w' : World} {e : TypeId} {s n : Nat} {v : Value} {xs : List Value} (h : HeadRow w e s v n xs) (hf : Frame X w w') (hX : ∀ k, v.ownBlock = some k → k ∉ X) : HeadRow w' e s v n xs := by
  rcases h with h | ⟨g, xt, rfl, h1, h2, h3⟩
  · exact .inl (owns_frame h hf hX)
  · exact .inr ⟨g, xt, rfl, hf.heap h1 (hX g rfl), h2, h3⟩
theorem HeadRow.len {w : World} {e : TypeId} {s n : Nat} {v : Value} {xs : List Value} (h : HeadRow w e s v n xs) : xs.length = n * s := by
  rcases h with h | ⟨g, xt, rfl, h1, h2, h3⟩
  · exact h.1
  · exact h2
theorem HeadRow.form {w : World} {e : TypeId} {s n : Nat} {v : Value} {xs : List Value} (h : HeadRow w e s v n xs) : ∃ ao cap, v = .slice ao n cap ∧ n ≤ cap := by
  rcases h with h | ⟨g, xt, rfl, h1, h2, h3⟩
  · rcases h.2 with ⟨h1, h2⟩ | ⟨g, cap, cur, h1, -, -, h2, -⟩
    · exact ⟨none, 0, by rw [h1, h2], by omega⟩
    · exact ⟨_, _, h1, h2⟩
  · exact ⟨_, _, rfl, Nat.le_refl _⟩
theorem HeadRow.cells {w : World} {e : TypeId} {s n : Nat} {v : Value} {xs : List Value} (h : HeadRow w e s v n xs) (hp : 0 < xs.length) : ∃ (g cap : Nat) (cur : Array Value), v = .slice (some ⟨g, 0, none⟩) n cap ∧ n ≤ cap ∧ w.heap[g]? = some (.cells cur e (0, 0)) ∧ ∀ (j : Nat) (u : Value), xs[j]? = some u → cur[j]? = some u := by
  rcases h with h | ⟨g, xt, rfl, h1, h2, h3⟩
  · have hn0 : 0 < n := by
      have h1 := h.1
      rcases Nat.eq_zero_or_pos n with h0 | h0
      · rw [h0, Nat.zero_mul] at h1
        omega
      · exact h0
    obtain ⟨g, cap, cur, rfl, -, hg, hnc, hcm, hcs, htk⟩ := owns_open h hn0
    exact ⟨g, cap, cur, rfl, hnc, hg, fun j u hu => by rw [← Array.getElem?_toList]; exact getElem_of_take htk _ _ hu⟩
  · exact ⟨g, n, _, rfl, Nat.le_refl _, h1, fun j u hu => by rw [List.getElem?_toArray, List.getElem?_append_left (List.getElem?_eq_some_iff.1 hu).1]; exact hu⟩
theorem HeadRow.lt {w : World} {e : TypeId} {s n : Nat} {v : Value} {xs : List Value} (h : HeadRow w e s v n xs) {k : Nat} (hk : v.ownBlock = some k) : ∃ cur, w.heap[k]? = some (.cells cur e (0, 0)) := by
  rcases h with h | ⟨g, xt, rfl, h1, h2, h3⟩
  · exact owns_lt h hk
  · cases hk
    exact ⟨_, h1⟩

set_option maxHeartbeats 2000000 in
set_option maxRecDepth 100000 in
theorem insertI_growK (g : Nat) (xa xb xt xc : List Value) (i n gb : Nat) (w : World) (hxa : xa.length = i * 3) (hg : w.heap[g]? = some (.cells (xa ++ xb ++ xt).toArray 125 (0, 0))) (hxl : (xa ++ xb).length = n * 3) (hin : i < n)
    (hgb : w.heap[gb]? = some (.cells xc.toArray 125 (0, 0))) (hxc : xc.length = 3) (hc1 : ∀ u ∈ xc, u.oneCell' = true) (hb1 : ∀ u ∈ xb, u.oneCell' = true) (hn : n ≤ 1000) :
    Calls Try.prog 72 #[.slice (some ⟨g, 0, none⟩) n n, .int .i64 (i : Int), .slice (some ⟨gb, 0, none⟩) 1 1] w
      (RetV fun v' w' => ∃ cap, v' = .slice (some ⟨w.heap.size, 0, none⟩) (n + 1) cap ∧ w'.ownsRow 0 125 3 v' (n + 1) (xa ++ xc ++ xb) ∧ Frame [] w w') := by
  obtain ⟨i0, hi, hz0, hz1, hz2⟩ := info_parts info125
  have hxb : xb.length = (n - i) * 3 := by simp only [List.length_append] at hxl; omega
  have hxall : (xa ++ xb).length = n * 3 := hxl
  have a0 : (0 : Int) ≤ (n : Int) := by omega
  have a1 : (n : Int) ≤ 1000 := by omega
  have b0 : (0 : Int) ≤ (i : Int) := by omega
  have b1 : (i : Int) < (n : Int) := by omega
  have b2 : ¬ (n = i) := by omega
  have b3 : ¬ (n = 0) := by omega
  have b4 : ¬ ((i : Int) = (n : Int)) := by omega
  have hA : ∀ j u, xa[j]? = some u → w.cell? ((⟨g, 0, none⟩ : Addr).add j) = some u := fun j u hu => by
    rw [addr_add, cell_of hg, List.getElem?_toArray, List.append_assoc, List.getElem?_append_left (List.getElem?_eq_some_iff.1 hu).1]; exact hu
  have HA := Lib.hid hA
  have HG := Lib.hid hg
  have HGB := Lib.hid hgb
  have H1 := Lib.hid hc1
  have H2 := Lib.hid hb1
  have HXB := Lib.hid hxb
  have HXA := Lib.hid hxa
  have HXC := Lib.hid hxc
  have HXL := Lib.hid hxl
  have hlt := lt_of_heap hg
  have hltb := lt_of_heap hgb
  clear hA hg hgb hc1 hb1 hxb hxa hxc hxl hxall
  go_enter Try.func72, Try.ntmps72
  go_wp2_with (at_builtin; refine wpList_append_zerosK rfl (.tmp 34) (.tmp 39) 116 3 rfl 125 i0 _ 3 40 .i64 .i64 Try.underlying116 Try.underlying3 hi hz0 hz1 hz2 rfl (by decide) ⟨g, 0, none⟩ i n (n + 1 - i) rfl ?_ xa HXA.out HA.out (by omega) (n + 1) (by omega) (by omega) (by unfold maxLen; omega) (by omega) ?_)
  · show Value.int .i64 ((n : Int) + 1 - (i : Int)) = _
    exact congrArg _ (by omega)
  intro cap tail w1 c1 c2 htl hg1 hf1 hs1
  unfold maxLen at c2
  have HG1 := Lib.hid hg1
  have HTL := Lib.hid htl
  have HGB1 := Lib.hid (hf1.heap HGB.out (by simp))
  have HF1 := Lib.hid hf1
  have b5 : ¬ (cap = i) := by omega
  have b6 : ¬ (cap = i + 1) := by omega
  clear hg1 htl hf1
  go_wp2_with (with_reducible refine wpList_copyK rfl (.tmp 43) (.tmp 44) 116 116 rfl 125 3 Try.underlying116 size125 (some ⟨w.heap.size, i * 3, none⟩) (some ⟨gb, 0, none⟩) (n + 1 - i) (cap - i) 1 1 rfl rfl w.heap.size (i * 3) (xa ++ tail) 125 HG1.out 1 (Nat.min_eq_left (by omega)) xc HXC.out ?_ ?_ H1.out ?_)
  · intro j u hu
    rw [cell_of HGB1.out]
    simpa using hu
  · rw [HXC.out, List.length_append, HXA.out]
    have := HTL.out
    rw [HXA.out] at this
    omega
  intro w2 hg2 hf2 hs2
  have HG2 := Lib.hid hg2
  have HF2 := Lib.hid (HF1.out.then' hf2 (by simp))
  have HGS := Lib.hid (HF2.out.heap HG.out (by simp))
  clear hg2 hf2
  go_wp2_with fail
  have hwr : IntKind.i64.wrap ((i : Int) + 1) = (i : Int) + 1 := IntWalk.i64_in _ (by omega)
  have hp0 : (0 : Int) ≤ (i : Int) + 1 := by omega
  have hp1 : ((i : Int) + 1).toNat = i + 1 := by omega
  have hp2 : (i : Int) + 1 ≤ (n : Int) + 1 := by omega
  have hp3 : (i : Int) ≤ (n : Int) := by omega
  have hp4 : i ≤ n := by omega
  refine wp_region_plan (fun _ => True) 95 [([0, 1, 2, 5, 6, 3, 7, 4], [8], false)] (by kernel_rfl) (by kernel_rfl) ?_
  apply wpStages_last
  case hT => trivial
  case hn => exact Nat.le_refl _
  case hq =>
    intro w3 _
    simp only [picked, List.filterMap_cons, List.filterMap_nil, List.getElem?_cons_zero, List.getElem?_cons_succ]
    repeat still_step
    exact wpStill_nil rfl
  simp only [picked, List.filterMap_cons, List.filterMap_nil, List.getElem?_cons_zero, List.getElem?_cons_succ]
  clear hwr hp0 hp1 hp2 hp3 hp4
  refine wpList_copyK rfl (.tmp 50) (.tmp 53) 116 116 rfl 125 3 Try.underlying116 size125 _ _ _ _ _ _ rfl rfl w.heap.size ((i + 1) * 3) _ 125 HG2.out (n - i) ?_ xb HXB.out ?_ ?_ H2.out ?_
  · exact Nat.min_self _
  · refine fun _ => ⟨rfl, _, rfl, fun j u hu => ?_⟩
    rw [add_off]
    have h1 := cell_of HGS.out (i * 3 + j)
    rw [← HXA.out, List.getElem?_toArray, List.append_assoc, List.getElem?_append_right (by omega), Nat.add_sub_cancel_left, List.getElem?_append_left (List.getElem?_eq_some_iff.1 hu).1, hu, HXA.out] at h1
    exact h1
  · have h1 := HTL.out
    rw [HXA.out] at h1
    rw [lay_length _ _ _ (by rw [HXC.out, List.length_append, HXA.out]; omega), HXB.out, List.length_append, HXA.out]
    omega
  intro w3 hg3 hf3 hs3
  have hfin : w3.ownsRow 0 125 3 (.slice (some ⟨w.heap.size, 0, none⟩) (n + 1) cap) (n + 1) (xa ++ xc ++ xb) ∧ Frame [] w w3 := by
    have h1 := HTL.out
    rw [HXA.out] at h1
    have e1 : (xa ++ tail).length = cap * 3 := by rw [List.length_append, HXA.out]; omega
    have e2 : (lay (xa ++ tail) (i * 3) xc).length = cap * 3 := by rw [lay_length _ _ _ (by rw [HXC.out, e1]; omega), e1]
    have e3 : (i + 1) * 3 + xb.length = (n + 1) * 3 := by rw [HXB.out]; omega
    refine ⟨owns_of_block hg3 (by omega) (by unfold maxLen; omega) (by rw [lay_length _ _ _ (by rw [e2, e3]; omega), e2]) ?_ (Nat.zero_le _), HF2.out.then' hf3.drew' (by simp)⟩
    rw [← e3, lay_take_end _ _ _ (by rw [e2, e3]; omega), show (i + 1) * 3 = i * 3 + xc.length by rw [HXC.out]; omega, lay_take_end _ _ _ (by rw [HXC.out, e1]; omega), ← HXA.out, List.take_left]
  have HFIN := Lib.hid hfin
  clear hfin hg3 hf3
  refine wpList_nil (OnlyNormal.mk ?_)
  go_wp2_with fail
  go_ret
  exact RetV.of ⟨_, rfl, HFIN.out⟩

set_option maxHeartbeats 2000000 in
set_option maxRecDepth 100000 in
theorem insertI_endK (g : Nat) (xa xt xc : List Value) (n gb : Nat) (w : World) (hg : w.heap[g]? = some (.cells (xa ++ xt).toArray 125 (0, 0))) (hxa : xa.length = n * 3) (hgb : w.heap[gb]? = some (.cells xc.toArray 125 (0, 0))) (hxc : xc.length = 3) (hc1 : ∀ u ∈ xc, u.oneCell' = true) (h0 : 0 < n) (hn : n ≤ 1000) :
    Calls Try.prog 72 #[.slice (some ⟨g, 0, none⟩) n n, .int .i64 (n : Int), .slice (some ⟨gb, 0, none⟩) 1 1] w (RetV fun v' w' => w'.ownsRow w.heap.size 125 3 v' (n + 1) (xa ++ xc) ∧ Frame [] w w') := by
  obtain ⟨i0, hi, hz0, hz1, hz2⟩ := info_parts info125
  have a0 : (0 : Int) < (n : Int) := by omega
  have a1 : (n : Int) ≤ 1000 := by omega
  have hA : ∀ j u, xa[j]? = some u → w.cell? ⟨g, 0 + j, none⟩ = some u := fun j u hu => by
    rw [Nat.zero_add, cell_of hg, List.getElem?_toArray, List.getElem?_append_left (List.getElem?_eq_some_iff.1 hu).1]; exact hu
  have hC : ∀ j u, xc[j]? = some u → w.cell? ((⟨gb, 0, none⟩ : Addr).add j) = some u := fun j u hu => by rw [addr_add, cell_of hgb]; simpa using hu
  have HA := Lib.hid hA
  have HC := Lib.hid hC
  have H1 := Lib.hid hc1
  have HXA := Lib.hid hxa
  have HXC := Lib.hid hxc
  clear hA hC hc1 hxa hxc hg hgb
  go_enter Try.func72, Try.ntmps72
  go_wp2_with (at_builtin; refine stopHere ?_)
  intro _
  (refine wpList_append_arg _ rfl (.tmp 23) (.tmp 24) 116 rfl 125 i0 _ 3 40 Try.underlying116 hi hz0 hz1 hz2 rfl (by decide) g 0 n n xa rfl HXA.out HA.out ⟨gb, 0, none⟩ 1 1 xc rfl (HXC.out.trans (Nat.one_mul _).symm) HC.out H1.out (fun h => absurd h (by omega)) (by unfold maxLen; omega) (by omega) (fun h => absurd h (by omega)) ?_)
  intro _ v' w1 ho hgr
  have HF := Lib.hid (And.intro ho ((Frame.refl [] w).grown hgr (fun k hk => by cases hk)))
  clear ho hgr
  go_wp2_with fail
  go_ret
  exact RetV.of HF.out

/-- slices.Insert of one element into the head of a block. -/
theorem insertI_head (v : Value) (xa xb xc : List Value) (i n gb : Nat) (w : World) (hxa : xa.length = i * 3) (hown : HeadRow w 125 3 v n (xa ++ xb)) (hin : i ≤ n)
    (hgb : w.heap[gb]? = some (.cells xc.toArray 125 (0, 0))) (hxc : xc.length = 3) (hc1 : ∀ u ∈ xc, u.oneCell' = true) (hb1 : ∀ u ∈ xb, u.oneCell' = true) (hne : v.ownBlock ≠ some gb) (hn : n ≤ 1000) :
    Calls Try.prog 72 #[v, .int .i64 (i : Int), .slice (some ⟨gb, 0, none⟩) 1 1] w
      (RetV fun v' w' => w'.ownsRow 0 125 3 v' (n + 1) (xa ++ xc ++ xb) ∧ Frame v.ownBlock.toList w w' ∧ (∀ k, v'.ownBlock = some k → v.ownBlock = some k ∨ w.heap.size ≤ k)) := by
  rcases hown with hown | ⟨g, xt, rfl, hg, hl, h0⟩
  · exact insertI_any v xa xb xc i n gb w hxa hown hin hgb hxc hc1 hb1 hne hn
  rcases Nat.lt_or_eq_of_le hin with hlt | rfl
  · refine (insertI_growK g xa xb xt xc i n gb w hxa hg hl hlt hgb hxc hc1 hb1 hn).mono ?_
    rintro e w' ⟨v', rfl, c, rfl, h1, h2⟩
    refine RetV.of ⟨h1, h2.mono (by simp), fun k hk => .inr ?_⟩
    have : w.heap.size = k := by simpa [Value.ownBlock] using hk
    omega
  · obtain rfl : xb = [] := by
      rw [List.length_append] at hl
      exact List.eq_nil_of_length_eq_zero (by omega)
    rw [List.append_nil] at hg hl
    rw [List.append_nil]
    refine (insertI_endK g xa xt xc i gb w hg hl hgb hxc hc1 h0 hn).mono ?_
    rintro e w' ⟨v', rfl, h1, h2⟩
    exact RetV.of ⟨owns_zero h1, h2.mono (by simp), fun k hk => .inr (World.ownsRow.lt h1 k hk).1⟩

set_option maxHeartbeats 2000000 in
set_option maxRecDepth 100000 in
theorem insertN_growK (g : Nat) (xa xb xt xc : List Value) (i n gb : Nat) (w : World) (hxa : xa.length = i) (hg : w.heap[g]? = some (.cells (xa ++ xb ++ xt).toArray 115 (0, 0))) (hxl : (xa ++ xb).length = n) (hin : i < n)
    (hgb : w.heap[gb]? = some (.cells xc.toArray 115 (0, 0))) (hxc : xc.length = 1) (hc1 : ∀ u ∈ xc, u.oneCell' = true) (hb1 : ∀ u ∈ xb, u.oneCell' = true) (hn : n ≤ 1000) :
    Calls Try.prog 97 #[.slice (some ⟨g, 0, none⟩) n n, .int .i64 (i : Int), .slice (some ⟨gb, 0, none⟩) 1 1] w
      (RetV fun v' w' => ∃ cap, v' = .slice (some ⟨w.heap.size, 0, none⟩) (n + 1) cap ∧ w'.ownsRow 0 115 1 v' (n + 1) (xa ++ xc ++ xb) ∧ Frame [] w w') := by
  obtain ⟨i0, hi, hz0, hz1, hz2⟩ := info_parts info115
  have hxb : xb.length = (n - i) := by simp only [List.length_append] at hxl; omega
  have hxall : (xa ++ xb).length = n := hxl
  have a0 : (0 : Int) ≤ (n : Int) := by omega
  have a1 : (n : Int) ≤ 1000 := by omega
  have b0 : (0 : Int) ≤ (i : Int) := by omega
  have b1 : (i : Int) < (n : Int) := by omega
  have b2 : ¬ (n = i) := by omega
  have b3 : ¬ (n = 0) := by omega
  have b4 : ¬ ((i : Int) = (n : Int)) := by omega
  have hA : ∀ j u, xa[j]? = some u → w.cell? ((⟨g, 0, none⟩ : Addr).add j) = some u := fun j u hu => by
    rw [addr_add, cell_of hg, List.getElem?_toArray, List.append_assoc, List.getElem?_append_left (List.getElem?_eq_some_iff.1 hu).1]; exact hu
  have HA := Lib.hid hA
  have HG := Lib.hid hg
  have HGB := Lib.hid hgb
  have H1 := Lib.hid hc1
  have H2 := Lib.hid hb1
  have HXB := Lib.hid hxb
  have HXA := Lib.hid hxa
  have HXC := Lib.hid hxc
  have HXL := Lib.hid hxl
  have hlt := lt_of_heap hg
  have hltb := lt_of_heap hgb
  clear hA hg hgb hc1 hb1 hxb hxa hxc hxl hxall
  go_enter Try.func97, Try.ntmps97
  go_wp2_with (at_builtin; refine wpList_append_zerosK rfl (.tmp 34) (.tmp 39) 117 3 rfl 115 i0 _ 1 8 .i64 .i64 Try.underlying117 Try.underlying3 hi hz0 hz1 hz2 rfl (by decide) ⟨g, 0, none⟩ i n (n + 1 - i) rfl ?_ xa (by rw [Nat.mul_one]; exact HXA.out) HA.out (by omega) (n + 1) (by omega) (by omega) (by unfold maxLen; omega) (by omega) ?_)
  · show Value.int .i64 ((n : Int) + 1 - (i : Int)) = _
    exact congrArg _ (by omega)
  intro cap tail w1 c1 c2 htl hg1 hf1 hs1
  unfold maxLen at c2
  have HG1 := Lib.hid hg1
  have HTL := Lib.hid htl
  have HGB1 := Lib.hid (hf1.heap HGB.out (by simp))
  have HF1 := Lib.hid hf1
  have b5 : ¬ (cap = i) := by omega
  have b6 : ¬ (cap = i + 1) := by omega
  clear hg1 htl hf1
  go_wp2_with (with_reducible refine wpList_copyK rfl (.tmp 43) (.tmp 44) 117 117 rfl 115 1 Try.underlying117 size115 (some ⟨w.heap.size, i, none⟩) (some ⟨gb, 0, none⟩) (n + 1 - i) (cap - i) 1 1 rfl rfl w.heap.size (i) (xa ++ tail) 115 HG1.out 1 (Nat.min_eq_left (by omega)) xc HXC.out ?_ ?_ H1.out ?_)
  · intro j u hu
    rw [cell_of HGB1.out]
    simpa using hu
  · rw [HXC.out, List.length_append, HXA.out]
    have := HTL.out
    rw [HXA.out] at this
    omega
  intro w2 hg2 hf2 hs2
  have HG2 := Lib.hid hg2
  have HF2 := Lib.hid (HF1.out.then' hf2 (by simp))
  have HGS := Lib.hid (HF2.out.heap HG.out (by simp))
  clear hg2 hf2
  go_wp2_with fail
  have hwr : IntKind.i64.wrap ((i : Int) + 1) = (i : Int) + 1 := IntWalk.i64_in _ (by omega)
  have hp0 : (0 : Int) ≤ (i : Int) + 1 := by omega
  have hp1 : ((i : Int) + 1).toNat = i + 1 := by omega
  have hp2 : (i : Int) + 1 ≤ (n : Int) + 1 := by omega
  have hp3 : (i : Int) ≤ (n : Int) := by omega
  have hp4 : i ≤ n := by omega
  refine wp_region_plan (fun _ => True) 95 [([0, 1, 2, 5, 6, 3, 7, 4], [8], false)] (by kernel_rfl) (by kernel_rfl) ?_
  apply wpStages_last
  case hT => trivial
  case hn => exact Nat.le_refl _
  case hq =>
    intro w3 _
    simp only [picked, List.filterMap_cons, List.filterMap_nil, List.getElem?_cons_zero, List.getElem?_cons_succ]
    repeat still_step
    exact wpStill_nil rfl
  simp only [picked, List.filterMap_cons, List.filterMap_nil, List.getElem?_cons_zero, List.getElem?_cons_succ]
  clear hwr hp0 hp1 hp2 hp3 hp4
  refine wpList_copyK rfl (.tmp 50) (.tmp 53) 117 117 rfl 115 1 Try.underlying117 size115 _ _ _ _ _ _ rfl rfl w.heap.size ((i + 1)) _ 115 HG2.out (n - i) ?_ xb (by rw [Nat.mul_one]; exact HXB.out) ?_ ?_ H2.out ?_
  · exact Nat.min_self _
  · refine fun _ => ⟨rfl, _, rfl, fun j u hu => ?_⟩
    rw [add_off]
    have h1 := cell_of HGS.out (i + j)
    rw [← HXA.out, List.getElem?_toArray, List.append_assoc, List.getElem?_append_right (by omega), Nat.add_sub_cancel_left, List.getElem?_append_left (List.getElem?_eq_some_iff.1 hu).1, hu, HXA.out] at h1
    exact h1
  · have h1 := HTL.out
    rw [HXA.out] at h1
    rw [lay_length _ _ _ (by rw [HXC.out, List.length_append, HXA.out]; omega), HXB.out, List.length_append, HXA.out]
    omega
  intro w3 hg3 hf3 hs3
  have hfin : w3.ownsRow 0 115 1 (.slice (some ⟨w.heap.size, 0, none⟩) (n + 1) cap) (n + 1) (xa ++ xc ++ xb) ∧ Frame [] w w3 := by
    have h1 := HTL.out
    rw [HXA.out] at h1
    have e1 : (xa ++ tail).length = cap := by rw [List.length_append, HXA.out]; omega
    have e2 : (lay (xa ++ tail) (i) xc).length = cap := by rw [lay_length _ _ _ (by rw [HXC.out, e1]; omega), e1]
    have e3 : (i + 1) + xb.length = (n + 1) := by rw [HXB.out]; omega
    refine ⟨owns_of_block hg3 (by omega) (by unfold maxLen; omega) (by rw [lay_length _ _ _ (by rw [e2, e3]; omega), e2, Nat.mul_one]) ?_ (Nat.zero_le _), HF2.out.then' hf3.drew' (by simp)⟩
    rw [Nat.mul_one, ← e3, lay_take_end _ _ _ (by rw [e2, e3]; omega), show (i + 1) = i + xc.length by have := HXC.out; omega, lay_take_end _ _ _ (by rw [HXC.out, e1]; omega), ← HXA.out, List.take_left]
  have HFIN := Lib.hid hfin
  clear hfin hg3 hf3
  refine wpList_nil (OnlyNormal.mk ?_)
  go_wp2_with fail
  go_ret
  exact RetV.of ⟨_, rfl, HFIN.out⟩

set_option maxHeartbeats 2000000 in
set_option maxRecDepth 100000 in
theorem insertN_endK (g : Nat) (xa xt xc : List Value) (n gb : Nat) (w : World) (hg : w.heap[g]? = some (.cells (xa ++ xt).toArray 115 (0, 0))) (hxa : xa.length = n * 1) (hgb : w.heap[gb]? = some (.cells xc.toArray 115 (0, 0))) (hxc : xc.length = 1) (hc1 : ∀ u ∈ xc, u.oneCell' = true) (h0 : 0 < n) (hn : n ≤ 1000) :
    Calls Try.prog 97 #[.slice (some ⟨g, 0, none⟩) n n, .int .i64 (n : Int), .slice (some ⟨gb, 0, none⟩) 1 1] w (RetV fun v' w' => w'.ownsRow w.heap.size 115 1 v' (n + 1) (xa ++ xc) ∧ Frame [] w w') := by
  obtain ⟨i0, hi, hz0, hz1, hz2⟩ := info_parts info115
  have a0 : (0 : Int) < (n : Int) := by omega
  have a1 : (n : Int) ≤ 1000 := by omega
  have hA : ∀ j u, xa[j]? = some u → w.cell? ⟨g, 0 + j, none⟩ = some u := fun j u hu => by
    rw [Nat.zero_add, cell_of hg, List.getElem?_toArray, List.getElem?_append_left (List.getElem?_eq_some_iff.1 hu).1]; exact hu
  have hC : ∀ j u, xc[j]? = some u → w.cell? ((⟨gb, 0, none⟩ : Addr).add j) = some u := fun j u hu => by rw [addr_add, cell_of hgb]; simpa using hu
  have HA := Lib.hid hA
  have HC := Lib.hid hC
  have H1 := Lib.hid hc1
  have HXA := Lib.hid hxa
  have HXC := Lib.hid hxc
  clear hA hC hc1 hxa hxc hg hgb
  go_enter Try.func97, Try.ntmps97
  go_wp2_with (at_builtin; refine stopHere ?_)
  intro _
  (refine wpList_append_arg _ rfl (.tmp 23) (.tmp 24) 117 rfl 115 i0 _ 1 8 Try.underlying117 hi hz0 hz1 hz2 rfl (by decide) g 0 n n xa rfl HXA.out HA.out ⟨gb, 0, none⟩ 1 1 xc rfl (HXC.out.trans (Nat.one_mul _).symm) HC.out H1.out (fun h => absurd h (by omega)) (by unfold maxLen; omega) (by omega) (fun h => absurd h (by omega)) ?_)
  intro _ v' w1 ho hgr
  have HF := Lib.hid (And.intro ho ((Frame.refl [] w).grown hgr (fun k hk => by cases hk)))
  clear ho hgr
  go_wp2_with fail
  go_ret
  exact RetV.of HF.out

/-- slices.Insert of one element into the head of a block. -/
theorem insertN_head (v : Value) (xa xb xc : List Value) (i n gb : Nat) (w : World) (hxa : xa.length = i) (hown : HeadRow w 115 1 v n (xa ++ xb)) (hin : i ≤ n)
    (hgb : w.heap[gb]? = some (.cells xc.toArray 115 (0, 0))) (hxc : xc.length = 1) (hc1 : ∀ u ∈ xc, u.oneCell' = true) (hb1 : ∀ u ∈ xb, u.oneCell' = true) (hne : v.ownBlock ≠ some gb) (hn : n ≤ 1000) :
    Calls Try.prog 97 #[v, .int .i64 (i : Int), .slice (some ⟨gb, 0, none⟩) 1 1] w
      (RetV fun v' w' => w'.ownsRow 0 115 1 v' (n + 1) (xa ++ xc ++ xb) ∧ Frame v.ownBlock.toList w w' ∧ (∀ k, v'.ownBlock = some k → v.ownBlock = some k ∨ w.heap.size ≤ k)) := by
  rcases hown with hown | ⟨g, xt, rfl, hg, hl, h0⟩
  · exact insertN_any v xa xb xc i n gb w hxa hown hin hgb hxc hc1 hb1 hne hn
  rcases Nat.lt_or_eq_of_le hin with hlt | rfl
  · refine (insertN_growK g xa xb xt xc i n gb w hxa hg (by rw [hl, Nat.mul_one]) hlt hgb hxc hc1 hb1 hn).mono ?_
    rintro e w' ⟨v', rfl, c, rfl, h1, h2⟩
    refine RetV.of ⟨h1, h2.mono (by simp), fun k hk => .inr ?_⟩
    have : w.heap.size = k := by simpa [Value.ownBlock] using hk
    omega
  · obtain rfl : xb = [] := by
      rw [List.length_append] at hl
      exact List.eq_nil_of_length_eq_zero (by omega)
    rw [List.append_nil] at hg hl
    rw [List.append_nil]
    refine (insertN_endK g xa xt xc i gb w hg hl hgb hxc hc1 h0 hn).mono ?_
    rintro e w' ⟨v', rfl, h1, h2⟩
    exact RetV.of ⟨owns_zero h1, h2.mono (by simp), fun k hk => .inr (World.ownsRow.lt h1 k hk).1⟩


end Go.Proofs.Ytkapmpngglibjaa
