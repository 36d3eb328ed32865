/- A merge of two sorted parts, one of which is a single mark on the right. Conditions: each contract's own premises. -/
import Derived.Test.YtkapmpngglibjaaDoorDG
namespace Go.Proofs.YtkapmpngglibjaaDoor
open Go Go.RowKit

set_option maxHeartbeats 8000000 in
set_option maxRecDepth 100000 in
theorem symR_any (B0 g cap : Nat) (t : TypeId) (A : List Value) (d : List Int) (B : List Value) (a m b : Nat) (w : World) (h : InSort B0 w g t A d B) (hl : d.length ≤ 1000) (ham : a + 1 < m) (hmb : b = m + 1) (hb : b ≤ d.length) (ho : Srt a m d) :
    Calls Tryd.prog 23 #[.slice (some ⟨g, A.length, none⟩) d.length cap, .int .i64 (a : Int), .int .i64 (m : Int), .int .i64 (b : Int), .func (.func 17) #[] #[]] w
      (Ret (.tuple #[]) (SortRes g t A d B a b w)) := by
  have H := Lib.hid h
  have HO := Lib.hid ho
  clear h ho
  obtain ⟨N, hN⟩ : ∃ N, N = d.length := ⟨_, rfl⟩
  obtain ⟨off, hoff⟩ : ∃ off, off = A.length := ⟨_, rfl⟩
  rw [← hN] at hl hb ⊢
  rw [← hoff]
  have HN := Lib.hid (fun (_ : Unit) => And.intro hN hoff)
  clear hN hoff
  have a0 : (0 : Int) ≤ (a : Int) := by omega
  have m0 : (0 : Int) ≤ (m : Int) := by omega
  have b0 : (0 : Int) ≤ (b : Int) := by omega
  have e1 : ((m : Int) - (a : Int) == 1) = false := beq_eq_false_iff_ne.2 (by omega)
  have e2 : (b : Int) - (m : Int) = 1 := by omega
  have m1 : (m : Int) < (N : Int) := by omega
  have hO := Lib.hid (show OneR a m a m d from ⟨HO.out, Nat.le_refl _, by omega, Nat.le_refl _, fun k k1 k2 => by omega, fun k k1 k2 => by omega⟩)
  have HMB := Lib.hid (fun (_ : Unit) => hmb)
  have hab : a < m := by omega
  clear hmb
  go_enter Tryd.func23, Tryd.ntmps23
  go_wp2_with fail
  go_loopw [14, 15] (fun iv jv wr => ∃ i j : Nat, OneR a m i j d ∧ iv = .int .i64 (i : Int) ∧ jv = .int .i64 (j : Int) ∧ Hid (RowAt wr g t A d B ∧ Below w.heap.size w wr)) (fun iv jv _ => (intOf jv).toNat - (intOf iv).toNat)
  case atStart => exact ⟨a, m, hO.out, rfl, rfl, Lib.hid ⟨H.out.row, Below.refl _ _⟩⟩
  case round =>
    obtain ⟨i, j, h1, rfl, rfl, HI⟩ := hrel
    have i1 := h1.lo
    have i2 := h1.ij
    have i3 := h1.hi
    have i0 : (0 : Int) ≤ (i : Int) := by omega
    have j0 : (0 : Int) ≤ (j : Int) := by omega
    have H1 := Lib.hid h1
    clear h1
    by_cases hlt : i < j
    · have hlt' : ((i : Int) < (j : Int)) = True := eq_true (by omega)
      obtain ⟨q, hq⟩ : ∃ q, q = (i + j) / 2 := ⟨_, rfl⟩
      have eq : ((i : Int) + (j : Int)) / 2 = (q : Int) := by omega
      have q0 : (0 : Int) ≤ (q : Int) := by omega
      have q1 : (q : Int) < (N : Int) := by omega
      have HS := Lib.hid (H.out.later HI.out.2)
      have HQ := Lib.hid (fun (_ : Unit) => hq)
      have hq2 : i ≤ q ∧ q < j := by omega
      have hlen : d.length = N := (HN.out ()).1.symm
      clear hq
      obtain ⟨x, hx⟩ : ∃ x, d.getD (m) 0 = x := ⟨_, rfl⟩
      obtain ⟨y, hy⟩ : ∃ y, d.getD (q) 0 = y := ⟨_, rfl⟩
      have hcx := HS.out.row.cell (getD_at (d := d) (i := m) (by omega))
      have hcy := HS.out.row.cell (getD_at (d := d) (i := q) (by omega))
      rw [hx, ← (HN.out ()).2] at hcx
      rw [hy, ← (HN.out ()).2] at hcy
      have HCX := Lib.hid hcx
      have HCY := Lib.hid hcy
      have hlt2 : clsR x - clsR y < 0 ↔ zt d (m) = true ∧ zt d (q) = false := by
        unfold zt
        rw [hx, hy]
        refine cls_lt ?_ ?_
        · rw [← hx]; exact mk_at HS.out.mks (by omega)
        · rw [← hy]; exact mk_at HS.out.mks (by omega)
      have HC := Lib.hid (HS.out.later (below_drew _) |>.cmp x y)
      obtain ⟨c, hc⟩ : ∃ c, c = clsR x - clsR y := ⟨_, rfl⟩
      rw [← hc] at HC hlt2
      have HLT := Lib.hid (fun (_ : Unit) => hlt2)
      clear hx hy hcx hcy hc hlt2 hlen
      go_wp2_with fail
      refine wp_region_plan (fun w2 => w2.cell? ⟨g, off + (m), none⟩ = some (.int .i32 x) ∧ w2.cell? ⟨g, off + (q), none⟩ = some (.int .i32 y)) 220 [([0, 1, 2, 5, 6, 3, 7, 4, 8], [9], false), ([10, 11], [], false)] (by kernel_rfl) (by kernel_rfl) ?_
      apply wpStages_step
      case hT => exact ⟨HCX.out, HCY.out⟩
      case hn => exact Nat.le_refl _
      case hq =>
        intro w2 hT
        obtain ⟨cx, cy⟩ := hT
        simp only [picked, List.filterMap_cons, List.filterMap_nil, List.getElem?_cons_zero, List.getElem?_cons_succ]
        with_reducible refine wpStill_want ?hw (fun K hK => ?_)
        case hw => kernel_rfl
        (go_simp; refine hK _ ?_; clear hK K)
        with_reducible refine wpStill_want ?hw (fun K hK => ?_)
        case hw => kernel_rfl
        (go_simp; refine hK _ ?_; clear hK K)
        with_reducible refine wpStill_want ?hw (fun K hK => ?_)
        case hw => kernel_rfl
        (go_simp; refine hK _ ?_; clear hK K)
        with_reducible refine wpStill_want ?hw (fun K hK => ?_)
        case hw => kernel_rfl
        (go_simp; refine hK _ ?_; clear hK K)
        with_reducible refine wpStill_want ?hw (fun K hK => ?_)
        case hw => kernel_rfl
        (go_simp; refine hK _ ?_; clear hK K)
        with_reducible refine wpStill_want ?hw (fun K hK => ?_)
        case hw => kernel_rfl
        (go_simp; refine hK _ ?_; clear hK K)
        with_reducible refine wpStill_want ?hw (fun K hK => ?_)
        case hw => kernel_rfl
        (go_simp; refine hK _ ?_; clear hK K)
        with_reducible refine wpStill_want ?hw (fun K hK => ?_)
        case hw => kernel_rfl
        (go_simp; refine hK _ ?_; clear hK K)
        with_reducible refine wpStill_want ?hw (fun K hK => ?_)
        case hw => kernel_rfl
        (go_simp; refine hK _ ?_; clear hK K)
        exact wpStill_nil rfl

      simp only [picked, List.filterMap_cons, List.filterMap_nil, List.getElem?_cons_zero, List.getElem?_cons_succ]
      go_wp2_with fail
      refine HC.out.mono ?_
      clear HC
      rintro e w1 ⟨rfl, hb1⟩
      have hb1' : Below wr.heap.size wr w1 := (below_drew wr).trans hb1
      have HCX1 := Lib.hid ((hb1'.cell HS.out.lt).trans HCX.out)
      have HCY1 := Lib.hid ((hb1'.cell HS.out.lt).trans HCY.out)
      have HS1 := Lib.hid (HS.out.later hb1')
      have HB1 := Lib.hid (HI.out.2.trans (hb1'.mono HI.out.2.size))
      clear hb1 hb1' HS HI
      by_cases hlv : c < 0
      · have hlv' : (c < 0) = True := eq_true hlv
        have HZ := Lib.hid ((HLT.out ()).1 hlv)
        clear hlv HLT
        go_wp2_with fail
        refine OnlyNormal.mk ?_
        apply wpStages_last
        case hT => exact ⟨HCX1.out, HCY1.out⟩
        case hn => exact Nat.le_refl _
        case hq =>
          intro w2 hT
          clear hT
          simp only [picked, List.filterMap_cons, List.filterMap_nil, List.getElem?_cons_zero, List.getElem?_cons_succ]
          with_reducible refine wpStill_want ?hw (fun K hK => ?_)
          case hw => kernel_rfl
          (go_simp; refine hK _ ?_; clear hK K)
          with_reducible refine wpStill_want ?hw (fun K hK => ?_)
          case hw => kernel_rfl
          (go_simp; refine hK _ ?_; clear hK K)
          exact wpStill_nil rfl

        simp only [picked, List.filterMap_nil]
        refine wpList_nil (OnlyNormal.mk ?_)
        go_wp2_with fail
        go_roundw
        case rel =>
          have hq := HQ.out ()
          subst hq
          exact ⟨i, _, H1.out.down hlt HZ.out, rfl, by go_num, Lib.hid ⟨HS1.out.row, HB1.out⟩⟩
        case measure => simp [intOf]; omega
      · have hlv' : (c < 0) = False := eq_false hlv
        have HZ := Lib.hid (fun h => hlv ((HLT.out ()).2 h))
        clear hlv HLT
        go_wp2_with fail
        refine OnlyNormal.mk ?_
        apply wpStages_last
        case hT => exact ⟨HCX1.out, HCY1.out⟩
        case hn => exact Nat.le_refl _
        case hq =>
          intro w2 hT
          clear hT
          simp only [picked, List.filterMap_cons, List.filterMap_nil, List.getElem?_cons_zero, List.getElem?_cons_succ]
          with_reducible refine wpStill_want ?hw (fun K hK => ?_)
          case hw => kernel_rfl
          (go_simp; refine hK _ ?_; clear hK K)
          with_reducible refine wpStill_want ?hw (fun K hK => ?_)
          case hw => kernel_rfl
          (go_simp; refine hK _ ?_; clear hK K)
          exact wpStill_nil rfl

        simp only [picked, List.filterMap_nil]
        refine wpList_nil (OnlyNormal.mk ?_)
        go_wp2_with fail
        go_roundw
        case rel =>
          have hq := HQ.out ()
          subst hq
          refine ⟨_, j, H1.out.up hlt (fun h1 => ?_), by go_num, rfl, Lib.hid ⟨HS1.out.row, HB1.out⟩⟩
          rcases hz : zt d ((i + j) / 2) with _ | _
          · exact absurd ⟨h1, hz⟩ HZ.out
          · rfl
        case measure => simp [intOf]; omega
    · obtain rfl : i = j := by omega
      have hlt' : ((i : Int) < (i : Int)) = False := eq_false (by omega)
      have HS := Lib.hid (H.out.later HI.out.2)
      have HF := Lib.hid (Frame.of_below [g] HI.out.2)
      clear HI
      go_wp2_with fail
      go_loopw [17] (fun kv wq => ∃ k : Nat, i ≤ k ∧ k ≤ m ∧ kv = .int .i64 (k : Int) ∧ Hid (∃ dk, RowAt wq g t A dk B ∧ CarR a m i k d dk ∧ Frame [g] w wq)) (fun kv _ => (intOf kv).toNat)
      case atStart => exact ⟨m, by omega, Nat.le_refl _, rfl, Lib.hid ⟨d, HS.out.row, CarR.start H1.out, HF.out⟩⟩
      case round =>
        obtain ⟨k, k1, k2, rfl, HK⟩ := hrel
        have k0 : (0 : Int) ≤ (k : Int) := by omega
        obtain ⟨dk, r1, r2, r3⟩ := HK.out
        have HD := Lib.hid (And.intro r1 (And.intro r2 r3))
        clear r1 r2 r3 HK
        by_cases hk : i < k
        · obtain ⟨kp, rfl⟩ : ∃ kp, k = kp + 1 := ⟨k - 1, by omega⟩
          have hk' : ((i : Int) < (kp : Int) + 1) = True := eq_true (by omega)
          have hlen : dk.length = N := by rw [HD.out.2.1.rel.len]; exact (HN.out ()).1.symm
          have kz : (kp : Int) < (N : Int) := by omega
          have kz1 : (kp : Int) + 1 < (N : Int) := by omega
          have p0 : (0 : Int) ≤ (kp : Int) := by omega
          have p1 : (0 : Int) ≤ (kp : Int) + 1 := by omega
          have e0 : ((kp : Int) + 1).toNat = kp + 1 := by omega
          have hwp : IntKind.i64.wrap (kp : Int) = (kp : Int) := IntWalk.i64_in _ (by omega)
          obtain ⟨x, hx⟩ : ∃ x, dk.getD (kp + 1) 0 = x := ⟨_, rfl⟩
          obtain ⟨y, hy⟩ : ∃ y, dk.getD kp 0 = y := ⟨_, rfl⟩
          have hcx := HD.out.1.cell (getD_at (d := dk) (i := kp + 1) (by omega))
          have hcy := HD.out.1.cell (getD_at (d := dk) (i := kp) (by omega))
          rw [hx, ← (HN.out ()).2] at hcx
          rw [hy, ← (HN.out ()).2] at hcy
          have HX := Lib.hid (And.intro hx hy)
          have f1 := HD.out.1.frozen (off + (kp + 1))
          have f2 := HD.out.1.frozen (off + kp)
          have hne : (off + (kp + 1) = off + kp) = False := eq_false (by omega)
          have hne' : (off + kp = off + (kp + 1)) = False := eq_false (by omega)
          clear hx hy hlen
          go_wp2_with fail
          go_big_region
          all_goals go_wp2_with fail
          go_roundw
          case rel =>
            have hlen : dk.length = d.length := HD.out.2.1.rel.len
            have hN := (HN.out ()).1
            have hmb := HMB.out ()
            refine ⟨kp, by omega, by omega, rfl, Lib.hid ⟨swp dk (kp + 1) kp, ?_, HD.out.2.1.step (by omega) (by omega), ?_⟩⟩
            · have h1 := (HD.out.1.set (kp + 1) y (by omega)).set kp x (by rw [List.length_set]; omega)
              rw [← (HN.out ()).2] at h1
              unfold swp
              rw [HX.out.1, HX.out.2]
              exact h1
            · exact ((HD.out.2.2.set (.inl (by simp)) _).set (.inl (by simp)) _).drew
          case measure => simp [intOf]
        · have hk' : ((i : Int) < (k : Int)) = False := eq_false (by omega)
          have HR := Lib.hid (show SortRes g t A d B a b w wr from ⟨dk, HD.out.1, by rw [HMB.out ()]; exact HD.out.2.1.rel, by rw [HMB.out ()]; exact HD.out.2.1.done hk, HD.out.2.2⟩)
          go_wp2_with fail
          go_end0
          exact ⟨rfl, HR.out⟩

end Go.Proofs.YtkapmpngglibjaaDoor
