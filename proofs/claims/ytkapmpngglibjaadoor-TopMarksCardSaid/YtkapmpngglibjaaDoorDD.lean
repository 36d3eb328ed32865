/- Sorting by insertion, walked. Conditions: each contract's own premises. -/
import Derived.Test.YtkapmpngglibjaaDoorDC
namespace Go.Proofs.YtkapmpngglibjaaDoor
open Go Go.RowKit

section
variable {P : Program} {ops : Array Oper} {w : World} {Q : Act → Prop} {a : Act} {o : Oper} {rest : List Oper}
theorem wpStill_want (hw : Region.wanted o (yielded ops a.tmps) = true) (h : ∀ K : Act → Prop, (∀ a, wpStill P ops w Q rest a → K a) → o.still P a w K) : wpStill P ops w Q (o :: rest) a :=
  wpStill_step fun K hK => by rw [if_pos hw]; exact h K hK
theorem wpStill_skip (hw : Region.wanted o (yielded ops a.tmps) = false) (h : ∀ K : Act → Prop, (∀ a, wpStill P ops w Q rest a → K a) → K (a.put o.dst undef)) : wpStill P ops w Q (o :: rest) a :=
  wpStill_step fun K hK => by rw [if_neg (by rw [hw]; exact Bool.false_ne_true)]; exact h K hK
end

def SortRes (g : Nat) (t : TypeId) (A : List Value) (d : List Int) (B : List Value) (a b : Nat) (w w' : World) : Prop := ∃ d', RowAt w' g t A d' B ∧ Rel a b d d' ∧ Srt a b d' ∧ Frame [g] w w'

theorem wpStages_step {P : Program} {T : World → Prop} {l : List Oper} {N : Act → World → Prop} {n : Nat} {qs es : List Nat} {rest : List Stage} {a : Act} (a' : Act) {w : World} (hT : T w) (hn : n ≤ a.tmps.size)
    (hq : ∀ w1, T w1 → wpStill P l.toArray w1 (fun a2 => a2 = a') (picked l qs) a) (h : wpList P l.toArray (OnlyNormal fun a2 w2 => wpStages P l N T n rest a2 w2) (picked l es) a' w) :
    wpStages P l N T n ((qs, es, false) :: rest) a w := ⟨a', .inr ⟨hT, hn, hq⟩, by simpa using h⟩

/-- What is in the sort's hands. -/
structure InSort (B0 : Nat) (w : World) (g : Nat) (t : TypeId) (A : List Value) (d : List Int) (B : List Value) : Prop where
  row : RowAt w g t A d B
  mks : Mk d
  tab : MarksAt B0 w
  low : B0 ≤ g

theorem InSort.lt {B0 : Nat} {w : World} {g : Nat} {t : TypeId} {A : List Value} {d : List Int} {B : List Value} (h : InSort B0 w g t A d B) : g < w.heap.size := lt_of_heap h.row
theorem InSort.cmp {B0 : Nat} {w : World} {g : Nat} {t : TypeId} {A : List Value} {d : List Int} {B : List Value} (h : InSort B0 w g t A d B) (x y : Int) :
    Calls Tryd.prog 17 #[.int .i32 x, .int .i32 y] w (Ret (.int .i64 (clsR x - clsR y)) fun w' => Below w.heap.size w w') := cmp_any B0 x y w h.tab (Nat.le_of_lt (Nat.lt_of_le_of_lt h.low h.lt))
theorem InSort.later {B0 : Nat} {w w' : World} {g : Nat} {t : TypeId} {A : List Value} {d : List Int} {B : List Value} (h : InSort B0 w g t A d B) (hb : Below w.heap.size w w') : InSort B0 w' g t A d B :=
  ⟨h.row.later hb, h.mks, h.tab.below (hb.mono (Nat.le_of_lt (Nat.lt_of_le_of_lt h.low h.lt))), h.low⟩
theorem below_drew (w : World) : Below w.heap.size w w.drew := ⟨rfl, rfl, rfl, Nat.le_refl _, fun _ _ => rfl⟩
theorem InSort.moved {B0 : Nat} {w w' : World} {g : Nat} {t : TypeId} {A : List Value} {d d' : List Int} {B : List Value} (h : InSort B0 w g t A d B) (hr : RowAt w' g t A d' B) (hm : Mk d') (hf : Frame [g] w w') : InSort B0 w' g t A d' B :=
  ⟨hr, hm, h.tab.below (hf.below (Nat.le_of_lt (Nat.lt_of_le_of_lt h.low h.lt)) (fun k hk => by rw [List.mem_singleton.1 hk]; exact h.low)), h.low⟩

set_option maxHeartbeats 8000000 in
set_option maxRecDepth 100000 in
theorem insertion_any (B0 g cap : Nat) (t : TypeId) (A : List Value) (d : List Int) (B : List Value) (a b : Nat) (w : World) (h : InSort B0 w g t A d B) (hl : d.length ≤ 1000) (hab : a ≤ b) (hb : b ≤ d.length) :
    Calls Tryd.prog 22 #[.slice (some ⟨g, A.length, none⟩) d.length cap, .int .i64 (a : Int), .int .i64 (b : Int), .func (.func 17) #[] #[]] w
      (Ret (.tuple #[]) (SortRes g t A d B a b w)) := by
  have H := Lib.hid h
  clear h
  obtain ⟨N, hN⟩ : ∃ N, N = d.length := ⟨_, rfl⟩
  obtain ⟨off, hoff⟩ : ∃ off, off = A.length := ⟨_, rfl⟩
  rw [← hN] at hl hb ⊢
  rw [← hoff]
  have HN := Lib.hid (fun (_ : Unit) => And.intro hN hoff)
  clear hN hoff
  have a0 : (0 : Int) ≤ (a : Int) := by omega
  have b0 : (0 : Int) ≤ (b : Int) := by omega
  go_enter Tryd.func22, Tryd.ntmps22
  go_wp2_with fail
  go_loopw [8] (fun i wr => ∃ k : Nat, a + 1 ≤ k ∧ k ≤ b + 1 ∧ (k ≤ b ∨ k = a + 1) ∧ i = .int .i64 (k : Int) ∧ Hid (∃ dk, RowAt wr g t A dk B ∧ Rel a b d dk ∧ Srt a k dk ∧ Frame [g] w wr)) (fun i _ => b - (intOf i).toNat)
  case atStart => exact ⟨a + 1, by omega, by omega, .inr rfl, by go_num, Lib.hid ⟨d, H.out.row, Rel.refl _ _ _, fun i j h1 h2 h3 => by omega, Frame.refl _ _⟩⟩
  case round =>
    obtain ⟨k, hk1, hk2, hk3, rfl, HI⟩ := hrel
    have k0 : (0 : Int) ≤ (k : Int) := by omega
    by_cases hlt : k < b
    · have hlt' : (k : Int) < (b : Int) := by omega
      go_wp2_with fail
      go_loopw [9] (fun jv wq => ∃ j : Nat, a ≤ j ∧ j ≤ k ∧ jv = .int .i64 (j : Int) ∧ Hid (∃ dj, RowAt wq g t A dj B ∧ Rel a b d dj ∧ InsAt a k j dj ∧ Frame [g] w wq)) (fun jv _ => (intOf jv).toNat)
      case atStart =>
        obtain ⟨dk, h1, h2, h3, h4⟩ := HI.out
        exact ⟨k, by omega, Nat.le_refl _, rfl, Lib.hid ⟨dk, h1, h2, fun p q hp hpq hq hne hz => h3 p q hp hpq (by omega) hz, h4⟩⟩
      case round =>
        obtain ⟨j, hj1, hj2, rfl, HJ⟩ := hrel
        have j0 : (0 : Int) ≤ (j : Int) := by omega
        obtain ⟨dj, hrow, hrel2, hins, hfr⟩ := HJ.out
        have HD := Lib.hid (And.intro hrow (And.intro hrel2 (And.intro hins hfr)))
        have HS := Lib.hid (H.out.moved hrow (hrel2.marks H.out.mks) hfr)
        have hlen : dj.length = N := by rw [hrel2.len]; exact (HN.out ()).1.symm
        clear hrow hrel2 hins hfr HJ
        by_cases hja : a < j
        · obtain ⟨jp, rfl⟩ : ∃ jp, j = jp + 1 := ⟨j - 1, by omega⟩
          have hjaz : (a : Int) < (jp : Int) + 1 := by omega
          have jz : (jp : Int) + 1 < (N : Int) := by omega
          have jz1 : (jp : Int) < (N : Int) := by omega
          have p0 : (0 : Int) ≤ (jp : Int) + 1 := by omega
          have p1 : (0 : Int) ≤ (jp : Int) := by omega
          have hwp : IntKind.i64.wrap (jp : Int) = (jp : Int) := IntWalk.i64_in _ (by omega)
          have e0 : ((jp : Int) + 1).toNat = jp + 1 := by omega
          obtain ⟨xj, hxj⟩ : ∃ x, dj.getD (jp + 1) 0 = x := ⟨_, rfl⟩
          obtain ⟨xp, hxp⟩ : ∃ x, dj.getD jp 0 = x := ⟨_, rfl⟩
          have hcj := HD.out.1.cell (getD_at (d := dj) (i := jp + 1) (by omega))
          have hcp := HD.out.1.cell (getD_at (d := dj) (i := jp) (by omega))
          rw [hxj, ← (HN.out ()).2] at hcj
          rw [hxp, ← (HN.out ()).2] at hcp
          have HX := Lib.hid (And.intro hxj hxp)
          have HCJ := Lib.hid hcj
          have HCP := Lib.hid hcp
          have hlt2 : clsR xj - clsR xp < 0 ↔ zr xj = true ∧ zr xp = false := by
            refine cls_lt ?_ ?_
            · rw [← hxj]; exact mk_at HS.out.mks (by omega)
            · rw [← hxp]; exact mk_at HS.out.mks (by omega)
          have HC := Lib.hid (HS.out.later (below_drew _) |>.cmp xj xp)
          obtain ⟨c, hc⟩ : ∃ c, c = clsR xj - clsR xp := ⟨_, rfl⟩
          rw [← hc] at HC hlt2
          have HLT := Lib.hid (fun (_ : Unit) => hlt2)
          clear hxj hxp hcj hcp hc hlt2 hlen
          go_wp2_with fail
          refine wp_region_plan (fun w2 => w2.cell? ⟨g, off + (jp + 1), none⟩ = some (.int .i32 xj) ∧ w2.cell? ⟨g, off + jp, none⟩ = some (.int .i32 xp)) 53 [([0, 1, 2, 3, 4, 5, 6, 9, 10, 7, 11, 8, 12, 13], [14], false), ([15, 16], [], false)] (by kernel_rfl) (by kernel_rfl) ?_
          apply wpStages_step
          case hT => exact ⟨HCJ.out, HCP.out⟩
          case hn => exact Nat.le_refl _
          case hq =>
            intro w2 hT
            obtain ⟨cj, cp⟩ := hT
            simp only [picked, List.filterMap_cons, List.filterMap_nil, List.getElem?_cons_zero, List.getElem?_cons_succ]
            with_reducible refine wpStill_want ?hw (fun K hK => ?_)
            case hw => kernel_rfl
            (go_simp; refine hK _ ?_; clear hK K)
            with_reducible refine wpStill_want ?hw (fun K hK => ?_)
            case hw => kernel_rfl
            (go_simp; refine hK _ ?_; clear hK K)
            with_reducible refine wpStill_want ?hw (fun K hK => ?_)
            case hw => kernel_rfl
            (go_simp; refine hK _ ?_; clear hK K)
            with_reducible refine wpStill_want ?hw (fun K hK => ?_)
            case hw => kernel_rfl
            (go_simp; refine hK _ ?_; clear hK K)
            with_reducible refine wpStill_want ?hw (fun K hK => ?_)
            case hw => kernel_rfl
            (go_simp; refine hK _ ?_; clear hK K)
            with_reducible refine wpStill_want ?hw (fun K hK => ?_)
            case hw => kernel_rfl
            (go_simp; refine hK _ ?_; clear hK K)
            with_reducible refine wpStill_want ?hw (fun K hK => ?_)
            case hw => kernel_rfl
            (go_simp; refine hK _ ?_; clear hK K)
            with_reducible refine wpStill_want ?hw (fun K hK => ?_)
            case hw => kernel_rfl
            (go_simp; refine hK _ ?_; clear hK K)
            with_reducible refine wpStill_want ?hw (fun K hK => ?_)
            case hw => kernel_rfl
            (go_simp; refine hK _ ?_; clear hK K)
            with_reducible refine wpStill_want ?hw (fun K hK => ?_)
            case hw => kernel_rfl
            (go_simp; refine hK _ ?_; clear hK K)
            with_reducible refine wpStill_want ?hw (fun K hK => ?_)
            case hw => kernel_rfl
            (go_simp; refine hK _ ?_; clear hK K)
            with_reducible refine wpStill_want ?hw (fun K hK => ?_)
            case hw => kernel_rfl
            (go_simp; refine hK _ ?_; clear hK K)
            with_reducible refine wpStill_want ?hw (fun K hK => ?_)
            case hw => kernel_rfl
            (go_simp; refine hK _ ?_; clear hK K)
            with_reducible refine wpStill_want ?hw (fun K hK => ?_)
            case hw => kernel_rfl
            (go_simp; refine hK _ ?_; clear hK K)
            exact wpStill_nil rfl

          simp only [picked, List.filterMap_cons, List.filterMap_nil, List.getElem?_cons_zero, List.getElem?_cons_succ]
          go_wp2_with fail
          refine HC.out.mono ?_
          clear HC
          rintro e w1 ⟨rfl, hb1⟩
          have hb1' : Below wr.heap.size wr w1 := (below_drew wr).trans hb1
          have HCJ1 := Lib.hid ((hb1'.cell HS.out.lt).trans HCJ.out)
          have HCP1 := Lib.hid ((hb1'.cell HS.out.lt).trans HCP.out)
          have HS1 := Lib.hid (HS.out.later hb1')
          have HF1 := Lib.hid (HD.out.2.2.2.then' (Frame.of_below [] hb1') (by simp) : Frame [g] w w1)
          clear hb1 hb1' HS
          by_cases hlv : c < 0
          · have hlv' : (c < 0) = True := eq_true hlv
            have HZ := Lib.hid ((HLT.out ()).1 hlv)
            clear hlv HLT
            go_wp2_with fail
            refine OnlyNormal.mk ?_
            apply wpStages_last
            case hT => exact ⟨HCJ1.out, HCP1.out⟩
            case hn => exact Nat.le_refl _
            case hq =>
              intro w2 hT
              clear hT
              simp only [picked, List.filterMap_cons, List.filterMap_nil, List.getElem?_cons_zero, List.getElem?_cons_succ]
              with_reducible refine wpStill_want ?hw (fun K hK => ?_)
              case hw => kernel_rfl
              (go_simp; refine hK _ ?_; clear hK K)
              with_reducible refine wpStill_want ?hw (fun K hK => ?_)
              case hw => kernel_rfl
              (go_simp; refine hK _ ?_; clear hK K)
              exact wpStill_nil rfl

            simp only [picked, List.filterMap_nil]
            refine wpList_nil (OnlyNormal.mk ?_)
            have cj1 := HCJ1.out
            have cp1 := HCP1.out
            have f1 := HS1.out.row.frozen (off + (jp + 1))
            have f2 := HS1.out.row.frozen (off + jp)
            go_wp2_with fail
            go_big_region
            all_goals go_wp2_with fail
            go_roundw
            case rel =>
              obtain ⟨hD1, hD2, hD3, hD4⟩ := HD.out
              have hl2 : dj.length = d.length := hD2.len
              have hN := (HN.out ()).1
              have z1 : zt dj (jp + 1) = true := by unfold zt; rw [HX.out.1]; exact HZ.out.1
              have z0 : zt dj jp = false := by unfold zt; rw [HX.out.2]; exact HZ.out.2
              refine ⟨jp, by omega, by omega, rfl, Lib.hid ⟨swp dj (jp + 1) jp, ?_, hD2.trans (Rel.swap (by omega) (by omega) (by omega) z1 z0), hD3.step (by omega) (by omega) hj2 z1 z0, ?_⟩⟩
              · have h1 := (HS1.out.row.set (jp + 1) xp (by omega)).set jp xj (by rw [List.length_set]; omega)
                rw [← (HN.out ()).2] at h1
                unfold swp
                rw [HX.out.1, HX.out.2]
                exact h1
              · exact ((HF1.out.set (.inl (by simp)) _).set (.inl (by simp)) _).drew
            case measure => simp [intOf]
          · have hlv' : (c < 0) = False := eq_false hlv
            have HZ := Lib.hid (fun h => hlv ((HLT.out ()).2 h))
            clear hlv HLT
            go_wp2_with fail
            refine OnlyNormal.mk ?_
            apply wpStages_last
            case hT => exact ⟨HCJ1.out, HCP1.out⟩
            case hn => exact Nat.le_refl _
            case hq =>
              intro w2 hT
              clear hT
              simp only [picked, List.filterMap_cons, List.filterMap_nil, List.getElem?_cons_zero, List.getElem?_cons_succ]
              with_reducible refine wpStill_want ?hw (fun K hK => ?_)
              case hw => kernel_rfl
              (go_simp; refine hK _ ?_; clear hK K)
              with_reducible refine wpStill_want ?hw (fun K hK => ?_)
              case hw => kernel_rfl
              (go_simp; refine hK _ ?_; clear hK K)
              exact wpStill_nil rfl

            simp only [picked, List.filterMap_nil]
            refine wpList_nil (OnlyNormal.mk ?_)
            go_wp2_with fail
            go_roundw
            case rel => exact ⟨k + 1, by omega, by omega, by omega, by go_num, Lib.hid ⟨dj, HS1.out.row, HD.out.2.1, HD.out.2.2.1.done_not (by omega) (fun z1 => by
              rcases hz : zt dj jp with _ | _
              · exact absurd ⟨by unfold zt at z1; rw [HX.out.1] at z1; exact z1, by unfold zt at hz; rw [HX.out.2] at hz; exact hz⟩ HZ.out
              · rfl), HF1.out⟩⟩
            case measure => simp [intOf]; omega
        · have hje : j = a := by omega
          subst hje
          clear hja
          have hjf : ((j : Int) < (j : Int)) = False := eq_false (by omega)
          go_wp2_with fail
          refine wp_region_plan (fun w2 => w2 = wr.drew) 53 [([0, 1, 2, 3, 4, 5, 6, 9, 10, 7, 11, 8, 12, 13], [14], false), ([15, 16], [], false)] (by kernel_rfl) (by kernel_rfl) ?_
          apply wpStages_step
          case hT => rfl
          case hn => exact Nat.le_refl _
          case hq =>
            rintro w2 rfl
            simp only [picked, List.filterMap_cons, List.filterMap_nil, List.getElem?_cons_zero, List.getElem?_cons_succ]
            with_reducible refine wpStill_want ?hw (fun K hK => ?_)
            case hw => kernel_rfl
            (go_simp; refine hK _ ?_; clear hK K)
            with_reducible refine wpStill_want ?hw (fun K hK => ?_)
            case hw => kernel_rfl
            (go_simp; refine hK _ ?_; clear hK K)
            with_reducible refine wpStill_want ?hw (fun K hK => ?_)
            case hw => kernel_rfl
            (go_simp; refine hK _ ?_; clear hK K)
            with_reducible refine wpStill_want ?hw (fun K hK => ?_)
            case hw => kernel_rfl
            (go_simp; refine hK _ ?_; clear hK K)
            with_reducible refine wpStill_skip ?hw (fun K hK => ?_)
            case hw => kernel_rfl
            (go_simp; refine hK _ ?_; clear hK K)
            with_reducible refine wpStill_skip ?hw (fun K hK => ?_)
            case hw => kernel_rfl
            (go_simp; refine hK _ ?_; clear hK K)
            with_reducible refine wpStill_skip ?hw (fun K hK => ?_)
            case hw => kernel_rfl
            (go_simp; refine hK _ ?_; clear hK K)
            with_reducible refine wpStill_skip ?hw (fun K hK => ?_)
            case hw => kernel_rfl
            (go_simp; refine hK _ ?_; clear hK K)
            with_reducible refine wpStill_skip ?hw (fun K hK => ?_)
            case hw => kernel_rfl
            (go_simp; refine hK _ ?_; clear hK K)
            with_reducible refine wpStill_skip ?hw (fun K hK => ?_)
            case hw => kernel_rfl
            (go_simp; refine hK _ ?_; clear hK K)
            with_reducible refine wpStill_skip ?hw (fun K hK => ?_)
            case hw => kernel_rfl
            (go_simp; refine hK _ ?_; clear hK K)
            with_reducible refine wpStill_skip ?hw (fun K hK => ?_)
            case hw => kernel_rfl
            (go_simp; refine hK _ ?_; clear hK K)
            with_reducible refine wpStill_skip ?hw (fun K hK => ?_)
            case hw => kernel_rfl
            (go_simp; refine hK _ ?_; clear hK K)
            with_reducible refine wpStill_skip ?hw (fun K hK => ?_)
            case hw => kernel_rfl
            (go_simp; refine hK _ ?_; clear hK K)
            exact wpStill_nil rfl

          simp only [picked, List.filterMap_cons, List.filterMap_nil, List.getElem?_cons_zero, List.getElem?_cons_succ]
          go_wp2_with fail
          refine OnlyNormal.mk ?_
          apply wpStages_last
          case hT => rfl
          case hn => exact Nat.le_refl _
          case hq =>
            rintro w2 rfl
            simp only [picked, List.filterMap_cons, List.filterMap_nil, List.getElem?_cons_zero, List.getElem?_cons_succ]
            with_reducible refine wpStill_skip ?hw (fun K hK => ?_)
            case hw => kernel_rfl
            (go_simp; refine hK _ ?_; clear hK K)
            with_reducible refine wpStill_want ?hw (fun K hK => ?_)
            case hw => kernel_rfl
            (go_simp; refine hK _ ?_; clear hK K)
            exact wpStill_nil rfl

          simp only [picked, List.filterMap_nil]
          refine wpList_nil (OnlyNormal.mk ?_)
          go_wp2_with fail
          go_roundw
          case rel => exact ⟨k + 1, by omega, by omega, by omega, by go_num, Lib.hid ⟨dj, HD.out.1, HD.out.2.1, HD.out.2.2.1.done_at, HD.out.2.2.2.drew⟩⟩
          case measure => simp [intOf]; omega
    · have hge : ((k : Int) < (b : Int)) = False := eq_false (by omega)
      obtain ⟨dk, h1, h2, h3, h4⟩ := HI.out
      have HR := Lib.hid (show SortRes g t A d B a b w wr from ⟨dk, h1, h2, fun i j g1 g2 g3 => h3 i j g1 g2 (by omega), h4⟩)
      clear h1 h2 h3 h4
      go_wp2_with fail
      go_end0
      exact ⟨rfl, HR.out⟩

end Go.Proofs.YtkapmpngglibjaaDoor
