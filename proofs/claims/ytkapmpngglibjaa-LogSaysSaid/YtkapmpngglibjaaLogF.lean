/- The closures of Log.Add. Conditions: each contract's own premises. -/
import Derived.Test.YtkapmpngglibjaaLogE
namespace Go.Proofs.Ytkapmpngglibjaa
open Go Go.RowKit

/-- The end of a deed is laid. -/
def closeD (L : LM) (n : Nat) (D : DM) : Nat × DM := D.write ((L.from_ + (L.next + n) : Nat) : Int) (textB 99 (L.first + (L.next + n)) (fourB n))

set_option maxHeartbeats 2000000 in
set_option maxRecDepth 100000 in
theorem closure84 (p2 p3 b db : Nat) (X : List Nat) (D : DM) (L : LM) (v : Value) (l : List Chg) (w : World) (hp2 : w.cell? ⟨p2, 0, none⟩ = some (.pointer (some ⟨b, 0, none⟩))) (hp3 : w.cell? ⟨p3, 0, none⟩ = some v)
    (hD : DiskAt w 107 111 db X D) (hL : LogAt w b db L) (hb : b ∉ X) (hV : ChgP (fun k => k ∉ X) w v l)
    (hf : ∀ c ∈ l, faultOf c = 0) (h1 : L.from_ + L.many ≤ 130) (h2 : L.next + l.length + 1 ≤ L.many) (h3 : L.first < 1073741824) (hw : D.wait.length + l.length < 9000) :
    Calls Try.prog 84 #[.pointer (some ⟨p2, 0, none⟩), .pointer (some ⟨p3, 0, none⟩)] w (Ret (errV (layL L D l).1) (DiskRes w db X (layL L D l).2)) := by
  have HLAY := Lib.hid (lay_any b db X D L v l w hD hL hb hV hf h1 h2 h3 hw)
  obtain ⟨ao, cap, rfl⟩ : ∃ ao cap, v = .slice ao l.length cap := by
    obtain ⟨ao, cap, rfl, -⟩ := hV
    exact ⟨ao, cap, rfl⟩
  clear hD hL hV hf hw h3
  go_enter Try.func84, Try.ntmps84
  go_wp2_with fail
  refine HLAY.out.mono ?_
  rintro e w1 ⟨rfl, hd⟩
  have HDONE := Lib.hid hd
  clear hd HLAY
  generalize layL L D l = r at *
  go_wp2_with fail
  go_ret
  exact Ret.of rfl HDONE.out

set_option maxHeartbeats 4000000 in
set_option maxRecDepth 100000 in
theorem closure86 (p2 p8 p3 b db : Nat) (X : List Nat) (D : DM) (L : LM) (v : Value) (l : List Chg) (w : World) (hp2 : w.cell? ⟨p2, 0, none⟩ = some (.pointer (some ⟨b, 0, none⟩))) (hp3 : w.cell? ⟨p3, 0, none⟩ = some v)
    (hp8 : w.cell? ⟨p8, 0, none⟩ = some (.int .i64 ((L.next : Int) + (l.length : Int)))) (hD : DiskAt w 107 111 db X D) (hL : LogAt w b db L) (hV : ChgP (fun k => k ∉ X) w v l)
    (h1 : L.from_ + L.many ≤ 130) (h2 : L.next + l.length + 1 ≤ L.many) (h3 : L.first < 1073741824) (hw : D.wait.length < 9000) :
    Calls Try.prog 86 #[.pointer (some ⟨p2, 0, none⟩), .pointer (some ⟨p8, 0, none⟩), .pointer (some ⟨p3, 0, none⟩)] w (Ret (errV (closeD L l.length D).1) (DiskRes w db X (closeD L l.length D).2)) := by
  obtain ⟨ao, cap, rfl⟩ : ∃ ao cap, v = .slice ao l.length cap := by
    obtain ⟨ao, cap, rfl, -⟩ := hV
    exact ⟨ao, cap, rfl⟩
  obtain ⟨n, hnn⟩ : ∃ n, n = l.length := ⟨_, rfl⟩
  rw [← hnn] at h2 hp3 hp8 ⊢
  have HD := Lib.hid hD
  have HL := Lib.hid hL
  have H3 := Lib.hid h3
  have CELLS := Lib.hid (fun w2 (hT : Below w.heap.size w w2) => And.intro (LogAt.cells (L := L) (w := w2) ((hT.block _ (lt_of_heap hL)).trans hL))
    (show w2.cell? ⟨p2, 0, none⟩ = some (.pointer (some ⟨b, 0, none⟩)) ∧ w2.cell? ⟨p3, 0, none⟩ = some (.slice ao n cap) ∧ w2.cell? ⟨p8, 0, none⟩ = some (.int .i64 ((L.next : Int) + (n : Int))) from
      ⟨(hT.cell (World.block_lt_of_cell? w _ hp2)).trans hp2, (hT.cell (World.block_lt_of_cell? w _ hp3)).trans hp3, (hT.cell (World.block_lt_of_cell? w _ hp8)).trans hp8⟩))
  clear hD hL hV h3 hnn hp2 hp3 hp8
  have n0 : (0 : Int) ≤ (n : Int) := by omega
  have n1 : (n : Int) ≤ 130 := by omega
  have f0 : (0 : Int) ≤ (L.from_ : Int) := by omega
  have f1 : (L.from_ : Int) ≤ 130 := by omega
  have x0 : (0 : Int) ≤ (L.next : Int) := by omega
  have x1 : (L.next : Int) ≤ 130 := by omega
  have s1 : IntKind.i64.wrap ((L.from_ : Int) + ((L.next : Int) + (n : Int))) = ((L.from_ + (L.next + n) : Nat) : Int) := by rw [IntWalk.i64_in _ (by omega)]; omega
  have s2 : IntKind.i64.wrap ((L.first : Int) + ((L.next : Int) + (n : Int))) = ((L.first + (L.next + n) : Nat) : Int) := by rw [IntWalk.i64_in _ (by have := H3.out; omega)]; omega
  go_enter Try.func86, Try.ntmps86
  go_wp2_with fail
  refine wp_region_plan (fun w2 => Below w.heap.size w w2) 25 [([0, 4, 8, 10, 14, 16, 1, 5, 11, 17, 2, 6, 12, 3, 7, 13, 9, 15], [18], true), ([], [19], true), ([], [20, 21], false)] (by kernel_rfl) (by kernel_rfl) ?_
  apply wpStages_keep
  case hT => exact (Below.refl _ _).drew
  case hn => exact Nat.le_refl _
  case hq =>
    intro w2 hT
    obtain ⟨⟨l0, l1, l2, l3, l4⟩, p2c, p3c, p8c⟩ := CELLS.out w2 hT
    simp only [picked, List.filterMap_cons, List.filterMap_nil, List.getElem?_cons_zero, List.getElem?_cons_succ]
    with_reducible refine wpStill_want ?hw (fun K hK => ?_)
    case hw => kernel_rfl
    (go_simp; refine hK _ ?_; clear hK K)
    with_reducible refine wpStill_want ?hw (fun K hK => ?_)
    case hw => kernel_rfl
    (go_simp; refine hK _ ?_; clear hK K)
    with_reducible refine wpStill_want ?hw (fun K hK => ?_)
    case hw => kernel_rfl
    (go_simp; refine hK _ ?_; clear hK K)
    with_reducible refine wpStill_want ?hw (fun K hK => ?_)
    case hw => kernel_rfl
    (go_simp; refine hK _ ?_; clear hK K)
    with_reducible refine wpStill_want ?hw (fun K hK => ?_)
    case hw => kernel_rfl
    (go_simp; refine hK _ ?_; clear hK K)
    with_reducible refine wpStill_want ?hw (fun K hK => ?_)
    case hw => kernel_rfl
    (go_simp; refine hK _ ?_; clear hK K)
    with_reducible refine wpStill_want ?hw (fun K hK => ?_)
    case hw => kernel_rfl
    (go_simp; refine hK _ ?_; clear hK K)
    with_reducible refine wpStill_want ?hw (fun K hK => ?_)
    case hw => kernel_rfl
    (go_simp; refine hK _ ?_; clear hK K)
    with_reducible refine wpStill_want ?hw (fun K hK => ?_)
    case hw => kernel_rfl
    (go_simp; refine hK _ ?_; clear hK K)
    with_reducible refine wpStill_want ?hw (fun K hK => ?_)
    case hw => kernel_rfl
    (go_simp; refine hK _ ?_; clear hK K)
    with_reducible refine wpStill_want ?hw (fun K hK => ?_)
    case hw => kernel_rfl
    (go_simp; refine hK _ ?_; clear hK K)
    with_reducible refine wpStill_want ?hw (fun K hK => ?_)
    case hw => kernel_rfl
    (go_simp; refine hK _ ?_; clear hK K)
    with_reducible refine wpStill_want ?hw (fun K hK => ?_)
    case hw => kernel_rfl
    (go_simp; refine hK _ ?_; clear hK K)
    with_reducible refine wpStill_want ?hw (fun K hK => ?_)
    case hw => kernel_rfl
    (go_simp; refine hK _ ?_; clear hK K)
    with_reducible refine wpStill_want ?hw (fun K hK => ?_)
    case hw => kernel_rfl
    (go_simp; refine hK _ ?_; clear hK K)
    with_reducible refine wpStill_want ?hw (fun K hK => ?_)
    case hw => kernel_rfl
    (go_simp; refine hK _ ?_; clear hK K)
    with_reducible refine wpStill_want ?hw (fun K hK => ?_)
    case hw => kernel_rfl
    (go_simp; refine hK _ ?_; clear hK K)
    with_reducible refine wpStill_want ?hw (fun K hK => ?_)
    case hw => kernel_rfl
    (go_simp; refine hK _ ?_; clear hK K)
    exact wpStill_nil rfl
  simp only [picked, List.filterMap_cons, List.filterMap_nil, List.getElem?_cons_zero, List.getElem?_cons_succ]
  clear s1 s2
  go_wp2_with fail
  refine (four_any n _ (by omega)).mono ?_
  rintro e w3 ⟨rfl, hB3⟩
  have hB4 : Below w.heap.size w w3 := (Below.refl _ _).drew.trans hB3
  clear hB3
  go_wp2_with fail
  refine OnlyNormal.mk ⟨hB4, ?_⟩
  apply wpStages_seqkeep
  simp only [picked, List.filterMap_cons, List.filterMap_nil, List.getElem?_cons_zero, List.getElem?_cons_succ]
  go_wp2_with fail
  refine (text_any 99 (L.first + (L.next + n)) (fourB n) _ (by omega) (by have := H3.out; omega) (by rw [show (fourB n).size = 4 from rfl]; omega)).mono ?_
  rintro e w4 ⟨rfl, hB5⟩
  have hB6 : Below w.heap.size w w4 := hB4.trans (hB5.mono hB4.size)
  clear hB4 hB5
  go_wp2_with fail
  refine OnlyNormal.mk ⟨hB6, ?_⟩
  apply wpStages_seq
  simp only [picked, List.filterMap_cons, List.filterMap_nil, List.getElem?_cons_zero, List.getElem?_cons_succ]
  go_wp2_with fail
  have HD6 := Lib.hid (HD.out.frame (Frame.of_below [] hB6) (by simp))
  have HF6 := Lib.hid (Frame.of_below X hB6)
  clear hB6
  refine (write_any db X D ((L.from_ + (L.next + n) : Nat) : Int) (textB 99 (L.first + (L.next + n)) (fourB n)) w4 HD6.out (by omega)).mono ?_
  rintro e w5 ⟨rfl, Z, hD5, hF5, hS5⟩
  have HDONE := Lib.hid (show DiskRes w db X (closeD L n D).2 w5 from ⟨Z, hD5, HF6.out.trans hF5, fun k hk => (hS5 k hk).imp id (fun h => Nat.le_trans HF6.out.size h)⟩)
  clear hD5 hF5 hS5
  have hcl : D.write ((L.from_ + (L.next + n) : Nat) : Int) (textB 99 (L.first + (L.next + n)) (fourB n)) = closeD L n D := rfl
  rw [hcl]
  clear hcl
  generalize closeD L n D = r at *
  go_wp2_with fail
  refine OnlyNormal.mk (wpStages_nil ?_)
  go_wp2_with fail
  go_ret
  exact Ret.of rfl HDONE.out

end Go.Proofs.Ytkapmpngglibjaa
