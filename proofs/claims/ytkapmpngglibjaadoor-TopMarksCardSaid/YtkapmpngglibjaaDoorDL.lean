/- sign.Split, walked. Conditions: each contract's own premises. -/
import Derived.Test.YtkapmpngglibjaaDoorDK
namespace Go.Proofs.YtkapmpngglibjaaDoor
open Go Go.RowKit Go.Lib

/-- The table of whole signs, below B. -/
def WholeAt (B : Nat) (w : World) : Prop := ∃ mb off cap, 3 < B ∧ mb < B ∧ w.cell? ⟨3, 0, none⟩ = some (.slice (some ⟨mb, off, none⟩) 4 cap) ∧
  ∀ (i : Nat) (m : List UInt8 × List UInt8), wholeL[i]? = some m → w.cell? ⟨mb, off + i * 2, none⟩ = some (.string ⟨m.1.toArray⟩) ∧ w.cell? ⟨mb, off + i * 2 + 1, none⟩ = some (.string ⟨m.2.toArray⟩)

theorem WholeAt.below {B : Nat} {w w' : World} (h : WholeAt B w) (hb : Below B w w') : WholeAt B w' := by
  obtain ⟨mb, off, cap, h0, h1, h2, h3⟩ := h
  refine ⟨mb, off, cap, h0, h1, (hb.cell h0).trans h2, fun i m hm => ?_⟩
  obtain ⟨a, b⟩ := h3 i m hm
  exact ⟨(hb.cell h1).trans a, (hb.cell h1).trans b⟩

/-- What sign.Split returns: a new row of one rune or two. -/
def NewRow (w : World) (l : List Int) (v : Value) (w' : World) : Prop := ∃ g, v = .slice (some ⟨g, 0, none⟩) l.length l.length ∧ w.heap.size ≤ g ∧ RowAt w' g 21 [] l [] ∧ Below w.heap.size w w'

set_option maxHeartbeats 4000000 in
set_option maxRecDepth 100000 in
theorem split_any (B : Nat) (r : Int) (w : World) (h : WholeAt B w) (hm : MarksAt B w) (hB : B ≤ w.heap.size) :
    Calls Tryd.prog 15 #[.int .i32 r] w (RetV (NewRow w (splitR r))) := by
  obtain ⟨mb, off, cap, h0, h1, h2, h3⟩ := h
  have H3 := Lib.hid h3
  have HB := Lib.hid (fun (_ : Unit) => And.intro hB (And.intro h0 h1))
  have HM := Lib.hid hm
  clear h3 hB h0 h1 hm
  go_enter Tryd.func15, Tryd.ntmps15
  go_wp2_with fail
  go_loopw [10] (fun i wr => ∃ k : Nat, k ≤ 4 ∧ i = .int .i64 (k : Int) ∧ Hid (Below w.heap.size w wr) ∧ Hid (∀ j row, j < k → wholeL[j]? = some row → r ∉ runesL row.1)) (fun i _ => 4 - (intOf i).toNat)
  case atStart => exact ⟨0, by omega, rfl, Lib.hid (Below.refl _ _), Lib.hid (fun j m hj => absurd hj (Nat.not_lt_zero _))⟩
  case round =>
    obtain ⟨k, hk, rfl, HW, HI⟩ := hrel
    have k0 : (0 : Int) ≤ (k : Int) := by omega
    by_cases hlt : k < 4
    · have hlt' : (k : Int) < 4 := by omega
      obtain ⟨⟨sg, lt⟩, hm⟩ : ∃ m, wholeL[k]? = some m := ⟨_, List.getElem?_eq_getElem (show k < wholeL.length from hlt)⟩
      have HR := Lib.hid hm
      obtain ⟨c0, c1⟩ := H3.out k _ hm
      have d0 := (HW.out.cell (World.block_lt_of_cell? w _ c0)).trans c0
      have d1 := (HW.out.cell (World.block_lt_of_cell? w _ c1)).trans c1
      obtain ⟨S, hS⟩ : ∃ S : ByteArray, S = ⟨sg.toArray⟩ := ⟨_, rfl⟩
      obtain ⟨L, hL⟩ : ∃ L : ByteArray, L = ⟨lt.toArray⟩ := ⟨_, rfl⟩
      simp only [← hS, ← hL] at d0 d1
      have HS := Lib.hid (And.intro hS hL)
      clear c0 c1 hm hS hL
      obtain ⟨H, hH⟩ : ∃ H, wr.heap.size = H := ⟨_, rfl⟩
      have HH := Lib.hid (fun (_ : Unit) => hH)
      have HWs := Lib.hid (show w.heap.size ≤ H from by rw [← hH]; exact HW.out.size)
      go_wp2_with fail
      go_loopw [5] (fun av wq => ∃ j pos : Nat, av = .int .i64 (j : Int) ∧ wq.heap[H + 1]? = some (.stringIter S pos) ∧ wq.heap[H]? = some (.cells #[.string S, .string L] 53) ∧ Hid (Below w.heap.size w wq) ∧ Hid (∃ pre, runesAt S 0 = pre ++ runesAt S pos ∧ pre.length = j ∧ r ∉ pre)) (fun _ wq => S.size - wq.iterPos (H + 1))
      case atStart =>
        refine ⟨0, 0, rfl, ?_, ?_, ?_, Lib.hid ⟨[], rfl, rfl, by simp⟩⟩
        · have := World.iter_heap (wr.alloc (.cells #[.string S, .string L] 53)) S 0
          rw [size_alloc, hH] at this
          exact this
        · have h1 := heap_alloc_new wr (.cells #[.string S, .string L] 53)
          rw [hH] at h1
          rw [← h1]
          exact heap_alloc_old _ _ (by rw [size_alloc]; omega)
        · exact Lib.hid (((HW.out.alloc HW.out.size _).alloc (by rw [size_alloc]; have := HW.out.size; omega) _))
      case round =>
        obtain ⟨j, pos, rfl, hit, hst, HW2, HP⟩ := hrel
        have j0 : (0 : Int) ≤ (j : Int) := by omega
        by_cases hp : pos < S.size
        · have hnx : ∀ ty, (Instr.next (.pointer (some ⟨H + 1, 0, none⟩)) true ty).run Tryd.prog wr = _ := fun ty => run_next_any_at wr (H + 1) S pos ty hit hp
          obtain ⟨p2, hp2⟩ : ∃ p2, pos + (Utf8.decode S pos).2 = p2 := ⟨_, rfl⟩
          obtain ⟨c, hc⟩ : ∃ c : Int, ((Utf8.decode S pos).1 : Int) = c := ⟨_, rfl⟩
          obtain ⟨wi, hwi⟩ : ∃ wi, wr.iterAt (H + 1) S p2 = wi := ⟨_, rfl⟩
          simp only [hp2, hc, hwi] at hnx
          have HX := Lib.hid (fun (_ : Unit) => And.intro hp2 (And.intro hc (And.intro hwi hit)))
          have hit2 : wi.heap[H + 1]? = some (.stringIter S p2) := by rw [← hwi]; exact iterAt_heap _ _ _ _ _ hit
          have hst2 : wi.heap[H]? = some (.cells #[.string S, .string L] 53) := by rw [← hwi, iterAt_other _ _ _ _ _ (by omega)]; exact hst
          have HW3 := Lib.hid (show Below w.heap.size w wi from by rw [← hwi]; exact below_iterAt HW2.out (by have := HWs.out; omega) _ _)
          have cs := cell_of hst2 0
          have cl := cell_of hst2 1
          simp only [List.getElem?_toArray, List.getElem?_cons_zero, List.getElem?_cons_succ] at cs cl
          have HIT := Lib.hid (And.intro hit2 hst2)
          clear hp2 hc hwi hit hst hit2 hst2
          by_cases hcr : c = r
          · subst hcr
            obtain ⟨⟨mv, mc⟩, hmk⟩ : ∃ m, marksL[k]? = some m := ⟨_, List.getElem?_eq_getElem (show k < marksL.length from hlt)⟩
            obtain ⟨mg, moff, mcap, g0, g1, g2, g3⟩ := HM.out.below (HW3.out.mono (HB.out ()).1)
            have g4 := (g3 k _ hmk).1
            obtain ⟨pre, q1, q2, q3⟩ := HP.out
            have hX := HX.out ()
            rw [runesAt_step hp, hX.1, hX.2.1] at q1
            have hfind : findR c (runesL sg) = some j := by
              have e : runesAt S 0 = runesL sg := by rw [HS.out.1]; rfl
              rw [← e, q1, findR_at q3, q2]
            have hjl : j < lt.length := by
              have h1 := findR_lt hfind
              have h2 : (runesL sg).length = lt.length := (whole_len HR.out).1
              omega
            have jL : (j : Int) < (L.size : Int) := by
              have : L.size = lt.length := by rw [HS.out.2]; rfl
              omega
            have HSp := Lib.hid (show splitR c = [byteI lt j, mv] from splitR_at HI.out HR.out hmk hfind)
            have HC4 := Lib.hid (And.intro g2 g4)
            clear hmk g0 g1 g2 g3 g4 q1 q2 q3 hX hfind HP
            go_wp2_with fail
            refine wp_region_plan (fun w2 => w2.cell? ⟨H, 1, none⟩ = some (.string L) ∧ w2.cell? ⟨0, 0, none⟩ = some (.slice (some ⟨mg, moff, none⟩) 4 mcap) ∧ w2.cell? ⟨mg, moff + k * 2, none⟩ = some (.int .i32 mv)) 40 [([0, 2, 5, 6, 1, 7, 3, 8, 4, 9], [10], false), ([11], [], false)] (by kernel_rfl) (by kernel_rfl) ?_
            apply wpStages_step
            case hT => exact ⟨cl, HC4.out.1, HC4.out.2⟩
            case hn => exact Nat.le_refl _
            case hq =>
              intro w2 hT
              obtain ⟨cl2, cg, ck⟩ := hT
              simp only [picked, List.filterMap_cons, List.filterMap_nil, List.getElem?_cons_zero, List.getElem?_cons_succ]
              with_reducible refine wpStill_want ?hw (fun K hK => ?_)
              case hw => kernel_rfl
              (go_simp; refine hK _ ?_; clear hK K)
              with_reducible refine wpStill_want ?hw (fun K hK => ?_)
              case hw => kernel_rfl
              (go_simp; refine hK _ ?_; clear hK K)
              with_reducible refine wpStill_want ?hw (fun K hK => ?_)
              case hw => kernel_rfl
              (go_simp; refine hK _ ?_; clear hK K)
              with_reducible refine wpStill_want ?hw (fun K hK => ?_)
              case hw => kernel_rfl
              (go_simp; refine hK _ ?_; clear hK K)
              with_reducible refine wpStill_want ?hw (fun K hK => ?_)
              case hw => kernel_rfl
              (go_simp; refine hK _ ?_; clear hK K)
              with_reducible refine wpStill_want ?hw (fun K hK => ?_)
              case hw => kernel_rfl
              (go_simp; refine hK _ ?_; clear hK K)
              with_reducible refine wpStill_want ?hw (fun K hK => ?_)
              case hw => kernel_rfl
              (go_simp; refine hK _ ?_; clear hK K)
              with_reducible refine wpStill_want ?hw (fun K hK => ?_)
              case hw => kernel_rfl
              (go_simp; refine hK _ ?_; clear hK K)
              with_reducible refine wpStill_want ?hw (fun K hK => ?_)
              case hw => kernel_rfl
              (go_simp; refine hK _ ?_; clear hK K)
              with_reducible refine wpStill_want ?hw (fun K hK => ?_)
              case hw => kernel_rfl
              (go_simp; refine hK _ ?_; clear hK K)
              exact wpStill_nil rfl

            simp only [picked, List.filterMap_cons, List.filterMap_nil, List.getElem?_cons_zero, List.getElem?_cons_succ]
            go_wp2_with fail
            refine OnlyNormal.mk ?_
            apply wpStages_last
            case hT =>
              have hb := (Below.refl wi.heap.size wi).alloc (Nat.le_refl _) (.cells #[.int .i32 (wrap32 (L[j]).toNat), .int .i32 mv] 21)
              refine ⟨(hb.cell (lt_of_heap HIT.out.2)).trans cl, (hb.cell ?_).trans HC4.out.1, (hb.cell ?_).trans HC4.out.2⟩
              · exact World.block_lt_of_cell? wi _ HC4.out.1
              · exact World.block_lt_of_cell? wi _ HC4.out.2
            case hn => exact Nat.le_refl _
            case hq =>
              intro w2 hT
              clear hT
              simp only [picked, List.filterMap_cons, List.filterMap_nil, List.getElem?_cons_zero, List.getElem?_cons_succ]
              with_reducible refine wpStill_want ?hw (fun K hK => ?_)
              case hw => kernel_rfl
              (go_simp; refine hK _ ?_; clear hK K)
              exact wpStill_nil rfl

            simp only [picked, List.filterMap_nil]
            refine wpList_nil (OnlyNormal.mk ?_)
            go_wp2_with fail
            go_ret
            refine RetV.of ⟨wi.heap.size, by rw [HSp.out]; rfl, HW3.out.size, ?_, ?_⟩
            rotate_left
            · have hb := HW3.out.alloc HW3.out.size (.cells #[.int .i32 (wrap32 (L[j]).toNat), .int .i32 mv] 21)
              exact ⟨hb.os, hb.tape, hb.output, hb.size, hb.block⟩
            have e : wrap32 ((L[j]).toNat : Int) = byteI lt j := by
              obtain ⟨-, hL⟩ := HS.out
              subst hL
              unfold byteI
              have e1 : (ByteArray.mk lt.toArray)[j] = lt[j] := rfl
              rw [e1, List.getD_eq_getElem?_getD, List.getElem?_eq_getElem hjl, Option.getD_some]
              have := (lt[j]).toNat_lt
              simp only [wrap32]
              omega
            rw [HSp.out, e]
            exact heap_alloc_new wi _
          · have hcr' : (c == r) = false := beq_eq_false_iff_ne.2 hcr
            have HN := Lib.hid (fun (_ : Unit) => hcr)
            have jb : (j : Int) ≤ 20 := by
              obtain ⟨pre, q1, q2, q3⟩ := HP.out
              have e : runesAt S 0 = runesL sg := by rw [HS.out.1]; rfl
              have h2 : (runesL sg).length = lt.length ∧ lt.length ≤ 20 := whole_len HR.out
              have h3 := congrArg List.length q1
              rw [e, List.length_append] at h3
              omega
            clear hcr
            go_wp2_with fail
            go_roundw
            case rel =>
              have hX := HX.out ()
              obtain ⟨pre, q1, q2, q3⟩ := HP.out
              rw [runesAt_step hp, hX.1, hX.2.1] at q1
              refine ⟨j + 1, p2, by go_num, HIT.out.1, HIT.out.2, HW3, Lib.hid ⟨pre ++ [c], by rw [q1, List.append_assoc]; rfl, by rw [List.length_append, q2]; rfl, ?_⟩⟩
              intro hmem
              rcases List.mem_append.1 hmem with h | h
              · exact q3 h
              · exact HN.out () (List.mem_singleton.1 h).symm
            case measure =>
              have hX := HX.out ()
              have hw := runesAt_width S pos
              simp only [World.iterPos, HIT.out.1, hX.2.2.2]
              omega
        · have hnx : ∀ ty, (Instr.next (.pointer (some ⟨H + 1, 0, none⟩)) true ty).run Tryd.prog wr = _ := fun ty => run_next_end_at wr (H + 1) S pos ty hit hp
          have HQ := Lib.hid (show r ∉ runesL sg from by
            obtain ⟨pre, q1, q2, q3⟩ := HP.out
            rw [runesAt_end hp, List.append_nil] at q1
            have e : runesAt S 0 = runesL sg := by rw [HS.out.1]; rfl
            rw [← e, q1]
            exact q3)
          clear hit hst HP
          go_wp2_with fail
          go_roundw
          case rel =>
            refine ⟨k + 1, by omega, by go_num, HW2, Lib.hid (fun j2 row hj2 hrow => ?_)⟩
            by_cases hjk : j2 = k
            · subst hjk
              rw [HR.out] at hrow
              cases hrow
              exact HQ.out
            · exact HI.out j2 row (by omega) hrow
          case measure => simp [intOf]; omega
    · have hge : ((k : Int) < 4) = False := eq_false (by omega)
      have hk4 : k = 4 := by omega
      have HN := Lib.hid (show splitR r = [r] from splitR_none fun j row hj hrow => HI.out j row (by omega) hrow)
      clear hk4 hlt hk
      go_wp2_with fail
      go_ret
      refine RetV.of ⟨wr.heap.size, by rw [HN.out]; rfl, HW.out.size, ?_, HW.out.alloc HW.out.size _⟩
      rw [HN.out]
      exact heap_alloc_new wr _

end Go.Proofs.YtkapmpngglibjaaDoor
