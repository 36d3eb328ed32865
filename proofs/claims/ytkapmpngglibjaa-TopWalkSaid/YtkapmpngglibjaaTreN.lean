/- Entries in memory, and whether two rows of them are the same. Conditions: each contract's own premises. -/
import Derived.Test.YtkapmpngglibjaaTreL
namespace Go.Proofs.Ytkapmpngglibjaa
open Go Go.RowKit

theorem flE_len (l : List Itm) : (flE l).length = l.length * 2 := by
  have := flatten_length (s := 2) (l.map Itm.ent) (fun r hr => by obtain ⟨x, -, rfl⟩ := List.mem_map.1 hr; rfl)
  rw [List.length_map] at this
  exact this
theorem flE_one (l : List Itm) : ∀ u ∈ flE l, u.oneCell' = true := fun u hu => by
  obtain ⟨r, hr, hu⟩ := List.mem_flatten.1 hu
  obtain ⟨x, -, rfl⟩ := List.mem_map.1 hr
  simp only [Itm.ent, List.mem_cons, List.not_mem_nil, or_false] at hu
  rcases hu with rfl | rfl <;> rfl
theorem flE_get (l : List Itm) (i j : Nat) (x : Itm) (hj : j < 2) (h : l[i]? = some x) : (flE l)[i * 2 + j]? = x.ent[j]? :=
  flatten_get (s := 2) (l.map Itm.ent) (fun r hr => by obtain ⟨x, -, rfl⟩ := List.mem_map.1 hr; rfl) i j x.ent hj (by rw [List.getElem?_map, h]; rfl)

/-- Where entries are read. -/
def EntsAt (w : World) (v : Value) (l : List Itm) : Prop := ∃ ao cap, v = .slice ao l.length cap ∧ ∀ (i : Nat) (x : Itm), l[i]? = some x → ∃ g off, ao = some ⟨g, off, none⟩ ∧
  w.cell? ⟨g, off + i * 2, none⟩ = some (.string x.name) ∧ w.cell? ⟨g, off + i * 2 + 1, none⟩ = some (.int .i64 x.node)

theorem ents_of {w : World} {base : Nat} {v : Value} {l : List Itm} (h : w.ownsRow base 59 2 v l.length (flE l)) : EntsAt w v l := by
  by_cases h0 : l.length = 0
  · obtain ⟨ao, cap, rfl⟩ := ownsForm h
    obtain rfl := List.eq_nil_of_length_eq_zero h0
    exact ⟨ao, cap, rfl, fun i x hx => by simp at hx⟩
  · obtain ⟨g, cap, cur, rfl, -, hg, hc⟩ := HeadRow.cells (.inl (owns_zero h)) (by rw [flE_len]; omega)
    refine ⟨_, _, rfl, fun i x hx => ⟨g, 0, rfl, ?_, ?_⟩⟩
    · rw [Nat.zero_add, cell_of hg]
      exact hc _ _ (flE_get l i 0 x (by decide) hx)
    · rw [Nat.zero_add, cell_of hg]
      exact hc _ _ (flE_get l i 1 x (by decide) hx)

set_option maxHeartbeats 2000000 in
set_option maxRecDepth 100000 in
theorem sameEntries_any (va vb : Value) (l : List Itm) (w : World) (ha : EntsAt w va l) (hb : EntsAt w vb l) (hn : l.length ≤ 1000) :
    Calls Try.prog 31 #[va, vb] w (Ret (.bool true) fun w' => Below w.heap.size w w') := by
  obtain ⟨ao, capa, rfl, ra⟩ := ha
  obtain ⟨bo, capb, rfl, rb⟩ := hb
  obtain ⟨n, hnn⟩ : ∃ n, n = l.length := ⟨_, rfl⟩
  rw [← hnn] at hn ⊢
  have HA := Lib.hid ra
  have HB := Lib.hid rb
  have HN := Lib.hid (fun (_ : Unit) => hnn)
  clear ra rb hnn
  have n0 : (0 : Int) ≤ (n : Int) := by omega
  have n1 : (n : Int) ≤ 1000 := by omega
  go_enter Try.func31, Try.ntmps31
  go_wp2_with fail
  go_loopw [5] (fun i wr => Frame [] w wr ∧ ∃ x : Nat, x ≤ n ∧ i = .int .i64 (x : Int)) (fun i _ => n - (intOf i).toNat)
  case atStart => exact ⟨Frame.refl _ _, 0, Nat.zero_le _, rfl⟩
  case round =>
    obtain ⟨hF, x, hx, rfl⟩ := hrel
    have x0 : (0 : Int) ≤ (x : Int) := by omega
    by_cases hlt : x < n
    · have hlt' : (x : Int) < (n : Int) := by omega
      obtain ⟨y, hy⟩ : ∃ y, l[x]? = some y := ⟨_, List.getElem?_eq_getElem (by rw [← HN.out ()]; exact hlt)⟩
      obtain ⟨yk, ym, yn⟩ := y
      obtain ⟨ga, oa, rfl, a0, a1⟩ := HA.out x _ hy
      obtain ⟨gb, ob, rfl, b0, b1⟩ := HB.out x _ hy
      replace a0 := hF.cell a0 (by simp)
      replace a1 := hF.cell a1 (by simp)
      replace b0 := hF.cell b0 (by simp)
      replace b1 := hF.cell b1 (by simp)
      simp only at a0 a1 b0 b1
      clear hy
      go_wp2_with fail
      refine wp_region_plan (fun w2 => w2 = wr.drew) 26 [([0, 1, 4, 5, 2, 6, 3, 7, 8], [], false)] (by kernel_rfl) (by kernel_rfl) ?_
      apply wpStages_last
      case hT => rfl
      case hn => exact Nat.le_refl _
      case hq =>
        rintro w2 rfl
        simp only [picked, List.filterMap_cons, List.filterMap_nil, List.getElem?_cons_zero, List.getElem?_cons_succ]
        repeat still_step
        exact wpStill_nil rfl
      simp only [picked, List.filterMap_nil]
      refine wpList_nil (OnlyNormal.mk ?_)
      go_wp2_with fail
      go_roundw
      case rel => exact ⟨hF.drew, x + 1, by omega, by go_num⟩
      case measure => simp [intOf]; omega
    · obtain rfl : x = n := by omega
      go_wp2_with fail
      go_ret
      exact Ret.of rfl (hF.below (Nat.le_refl _) (by simp))

end Go.Proofs.Ytkapmpngglibjaa
