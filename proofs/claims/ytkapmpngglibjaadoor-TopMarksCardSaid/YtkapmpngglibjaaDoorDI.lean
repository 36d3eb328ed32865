/- A merge of two sorted parts of marks: the way through the middle, and all of them. Conditions: each contract's own premises. -/
import Derived.Test.YtkapmpngglibjaaDoorDH
namespace Go.Proofs.YtkapmpngglibjaaDoor
open Go Go.RowKit

def Half2 (g : Nat) (t : TypeId) (A : List Value) (d : List Int) (B : List Value) (a b half s e : Nat) (w w2 : World) : Prop :=
  ∃ d1 d2, Rel a b d d1 ∧ Ready a b half s e d1 ∧ Rel a half d1 d2 ∧ Srt a half d2 ∧ RowAt w2 g t A d2 B ∧ Frame [g] w w2

set_option maxHeartbeats 16000000 in
set_option maxRecDepth 100000 in
theorem symG_any (B0 g cap : Nat) (t : TypeId) (A : List Value) (d : List Int) (B : List Value) (a m b : Nat) (w : World) (h : InSort B0 w g t A d B) (hl : d.length ≤ 1000) (ham : a + 1 < m) (hmb : m + 1 < b) (hb : b ≤ d.length)
    (ho : Srt a m d ∧ Srt m b d)
    (rec : ∀ (d1 : List Int) (w1 : World) (a1 m1 b1 : Nat), InSort B0 w1 g t A d1 B → d1.length = d.length → a1 < m1 → m1 < b1 → b1 ≤ d.length → b1 - a1 < b - a → Srt a1 m1 d1 → Srt m1 b1 d1 →
      Calls Tryd.prog 23 #[.slice (some ⟨g, A.length, none⟩) d1.length cap, .int .i64 (a1 : Int), .int .i64 (m1 : Int), .int .i64 (b1 : Int), .func (.func 17) #[] #[]] w1 (Ret (.tuple #[]) (SortRes g t A d1 B a1 b1 w1))) :
    Calls Tryd.prog 23 #[.slice (some ⟨g, A.length, none⟩) d.length cap, .int .i64 (a : Int), .int .i64 (m : Int), .int .i64 (b : Int), .func (.func 17) #[] #[]] w
      (Ret (.tuple #[]) (SortRes g t A d B a b w)) := by
  have REC := Lib.hid (fun (d1 : List Int) (w1 : World) (a1 m1 b1 : Nat) (q1 : InSort B0 w1 g t A d1 B) (q2 : d1.length = d.length) (q3 : a1 < m1) (q4 : m1 < b1) (q5 : b1 ≤ d.length) (q6 : b1 - a1 < b - a) (q7 : Srt a1 m1 d1) (q8 : Srt m1 b1 d1) => by
    have := rec d1 w1 a1 m1 b1 q1 q2 q3 q4 q5 q6 q7 q8
    rw [q2] at this
    exact this)
  clear rec
  have H := Lib.hid h
  have HO := Lib.hid ho
  clear h ho
  obtain ⟨N, hN⟩ : ∃ N, N = d.length := ⟨_, rfl⟩
  obtain ⟨off, hoff⟩ : ∃ off, off = A.length := ⟨_, rfl⟩
  rw [← hN] at hl hb REC ⊢
  rw [← hoff] at REC ⊢
  have HN := Lib.hid (fun (_ : Unit) => And.intro hN hoff)
  clear hN hoff
  have a0 : (0 : Int) ≤ (a : Int) := by omega
  have m0 : (0 : Int) ≤ (m : Int) := by omega
  have b0 : (0 : Int) ≤ (b : Int) := by omega
  have e1 : ((m : Int) - (a : Int) == 1) = false := beq_eq_false_iff_ne.2 (by omega)
  have e2 : ((b : Int) - (m : Int) == 1) = false := beq_eq_false_iff_ne.2 (by omega)
  obtain ⟨half, hhalf⟩ : ∃ half, half = (a + b) / 2 := ⟨_, rfl⟩
  have e3 : ((a : Int) + (b : Int)) / 2 = (half : Int) := by omega
  obtain ⟨nn, hnn⟩ : ∃ nn, nn = half + m := ⟨_, rfl⟩
  have e4 : (half : Int) + (m : Int) = (nn : Int) := by omega
  obtain ⟨p, hp⟩ : ∃ p, p = half + m - 1 := ⟨_, rfl⟩
  have e5 : (nn : Int) - 1 = (p : Int) := by omega
  have h0 : (0 : Int) ≤ (half : Int) := by omega
  have n0 : (0 : Int) ≤ (nn : Int) := by omega
  have p0 : (0 : Int) ≤ (p : Int) := by omega
  have hh1 : a < half ∧ half < b := by omega
  have hp1 : p + 1 ≤ half + m ∧ half + m ≤ p + 1 := by omega
  have hn1 : nn ≤ p + 1 ∧ p + 1 ≤ nn := by omega
  have bz : (b : Int) ≤ 1000 := by omega
  have mz : (m : Int) ≤ 1000 := by omega
  have az : (a : Int) ≤ 1000 := by omega
  have hz : (half : Int) ≤ 1000 := by omega
  have nz : (nn : Int) ≤ 2000 := by omega
  have HH := Lib.hid (fun (_ : Unit) => hhalf)
  clear hhalf hnn hp
  go_enter Tryd.func23, Tryd.ntmps23
  by_cases hm : half < m
  · have hm' : ((half : Int) < (m : Int)) = True := eq_true (by omega)
    obtain ⟨lo, hlo⟩ : ∃ lo, lo = half + m - b := ⟨_, rfl⟩
    obtain ⟨hi, hhi⟩ : ∃ hi, hi = half := ⟨_, rfl⟩
    have e6 : (nn : Int) - (b : Int) = (lo : Int) := by have := HH.out (); omega
    have lohi : lo ≤ hi ∧ hi ≤ m ∧ hi ≤ half ∧ a ≤ lo ∧ half + m ≤ lo + b := by have := HH.out (); omega
    have hF0 : Hid (Found a m b half lo hi d) := Lib.hid ⟨HO.out.1, HO.out.2, by omega, by omega, HH.out (), by rw [if_pos hm, hlo]; exact Nat.le_refl _, lohi.1, by rw [if_pos hm, hhi]; exact Nat.le_refl _, fun hx => by rw [if_pos hm] at hx; omega, fun hx => by rw [if_pos hm] at hx; omega⟩
    clear hlo
    go_wp2_with fail
    go_loopw [20, 21] (fun iv jv wr => ∃ s r : Nat, Hid (Found a m b half s r d) ∧ lo ≤ s ∧ s ≤ r ∧ r ≤ hi ∧ iv = .int .i64 (s : Int) ∧ jv = .int .i64 (r : Int) ∧ Hid (RowAt wr g t A d B ∧ Below w.heap.size w wr)) (fun iv jv _ => (intOf jv).toNat - (intOf iv).toNat)
    case atStart => exact ⟨lo, hi, hF0, Nat.le_refl _, by omega, Nat.le_refl _, by first | rfl | rw [hlo], by first | rfl | rw [hhi], Lib.hid ⟨H.out.row, Below.refl _ _⟩⟩
    case round =>
      obtain ⟨s, r, HF, i1, i2, i3, rfl, rfl, HI⟩ := hrel
      have i0 : (0 : Int) ≤ (s : Int) := by omega
      have j0 : (0 : Int) ≤ (r : Int) := by omega
      by_cases hlt : s < r
      · have hlt' : ((s : Int) < (r : Int)) = True := eq_true (by omega)
        obtain ⟨q, hq⟩ : ∃ q, q = (s + r) / 2 := ⟨_, rfl⟩
        have eq : ((s : Int) + (r : Int)) / 2 = (q : Int) := by omega
        have q0 : (0 : Int) ≤ (q : Int) := by omega
        have q1 : (q : Int) < (N : Int) := by omega
        have HS := Lib.hid (H.out.later HI.out.2)
        have HQ := Lib.hid (fun (_ : Unit) => hq)
        have hq2 : s ≤ q ∧ q < r := by omega
        have hlen : d.length = N := (HN.out ()).1.symm
        obtain ⟨u, hu⟩ : ∃ u, u = half + m - 1 - q := ⟨_, rfl⟩
        have eu : (p : Int) - (q : Int) = (u : Int) := by omega
        have u0 : (0 : Int) ≤ (u : Int) := by omega
        have u1 : (u : Int) < (N : Int) := by omega
        have HU := Lib.hid (fun (_ : Unit) => hu)
        have uN : u < N := by omega
        have hwu : IntKind.i64.wrap (u : Int) = (u : Int) := IntWalk.i64_in _ (by omega)
        clear hq hu
        obtain ⟨x, hx⟩ : ∃ x, d.getD (u) 0 = x := ⟨_, rfl⟩
        obtain ⟨y, hy⟩ : ∃ y, d.getD (q) 0 = y := ⟨_, rfl⟩
        have hcx := HS.out.row.cell (getD_at (d := d) (i := u) (by omega))
        have hcy := HS.out.row.cell (getD_at (d := d) (i := q) (by omega))
        rw [hx, ← (HN.out ()).2] at hcx
        rw [hy, ← (HN.out ()).2] at hcy
        have HCX := Lib.hid hcx
        have HCY := Lib.hid hcy
        have hlt2 : clsR x - clsR y < 0 ↔ zt d (u) = true ∧ zt d (q) = false := by
          unfold zt
          rw [hx, hy]
          refine cls_lt ?_ ?_
          · rw [← hx]; exact mk_at HS.out.mks (by omega)
          · rw [← hy]; exact mk_at HS.out.mks (by omega)
        have HC := Lib.hid (HS.out.later (below_drew _) |>.cmp x y)
        obtain ⟨c, hc⟩ : ∃ c, c = clsR x - clsR y := ⟨_, rfl⟩
        rw [← hc] at HC hlt2
        have HLT := Lib.hid (fun (_ : Unit) => hlt2)
        clear hx hy hcx hcy hc hlt2 hlen
        go_wp2_with fail
        refine wp_region_plan (fun w2 => w2.cell? ⟨g, off + (u), none⟩ = some (.int .i32 x) ∧ w2.cell? ⟨g, off + (q), none⟩ = some (.int .i32 y)) 220 [([0, 1, 2, 3, 7, 8, 4, 9, 5, 10, 6], [11], false), ([12, 13], [], false)] (by kernel_rfl) (by kernel_rfl) ?_
        apply wpStages_step
        case hT => exact ⟨HCX.out, HCY.out⟩
        case hn => exact Nat.le_refl _
        case hq =>
          intro w2 hT
          obtain ⟨cx, cy⟩ := hT
          simp only [picked, List.filterMap_cons, List.filterMap_nil, List.getElem?_cons_zero, List.getElem?_cons_succ]
          with_reducible refine wpStill_want ?hw (fun K hK => ?_)
          case hw => kernel_rfl
          (go_simp; refine hK _ ?_; clear hK K)
          with_reducible refine wpStill_want ?hw (fun K hK => ?_)
          case hw => kernel_rfl
          (go_simp; refine hK _ ?_; clear hK K)
          with_reducible refine wpStill_want ?hw (fun K hK => ?_)
          case hw => kernel_rfl
          (go_simp; refine hK _ ?_; clear hK K)
          with_reducible refine wpStill_want ?hw (fun K hK => ?_)
          case hw => kernel_rfl
          (go_simp; refine hK _ ?_; clear hK K)
          with_reducible refine wpStill_want ?hw (fun K hK => ?_)
          case hw => kernel_rfl
          (go_simp; refine hK _ ?_; clear hK K)
          with_reducible refine wpStill_want ?hw (fun K hK => ?_)
          case hw => kernel_rfl
          (go_simp; refine hK _ ?_; clear hK K)
          with_reducible refine wpStill_want ?hw (fun K hK => ?_)
          case hw => kernel_rfl
          (go_simp; refine hK _ ?_; clear hK K)
          with_reducible refine wpStill_want ?hw (fun K hK => ?_)
          case hw => kernel_rfl
          (go_simp; refine hK _ ?_; clear hK K)
          with_reducible refine wpStill_want ?hw (fun K hK => ?_)
          case hw => kernel_rfl
          (go_simp; refine hK _ ?_; clear hK K)
          with_reducible refine wpStill_want ?hw (fun K hK => ?_)
          case hw => kernel_rfl
          (go_simp; refine hK _ ?_; clear hK K)
          with_reducible refine wpStill_want ?hw (fun K hK => ?_)
          case hw => kernel_rfl
          (go_simp; refine hK _ ?_; clear hK K)
          exact wpStill_nil rfl

        simp only [picked, List.filterMap_cons, List.filterMap_nil, List.getElem?_cons_zero, List.getElem?_cons_succ]
        go_wp2_with fail
        refine HC.out.mono ?_
        clear HC
        rintro e w1 ⟨rfl, hb1⟩
        have hb1' : Below wr.heap.size wr w1 := (below_drew wr).trans hb1
        have HCX1 := Lib.hid ((hb1'.cell HS.out.lt).trans HCX.out)
        have HCY1 := Lib.hid ((hb1'.cell HS.out.lt).trans HCY.out)
        have HS1 := Lib.hid (HS.out.later hb1')
        have HB1 := Lib.hid (HI.out.2.trans (hb1'.mono HI.out.2.size))
        clear hb1 hb1' HS HI
        by_cases hlv : c < 0
        · have hlv' : (c < 0) = True := eq_true hlv
          have HZ := Lib.hid ((HLT.out ()).1 hlv)
          clear hlv HLT
          go_wp2_with fail
          refine OnlyNormal.mk ?_
          apply wpStages_last
          case hT => exact ⟨HCX1.out, HCY1.out⟩
          case hn => exact Nat.le_refl _
          case hq =>
            intro w2 hT
            clear hT
            simp only [picked, List.filterMap_cons, List.filterMap_nil, List.getElem?_cons_zero, List.getElem?_cons_succ]
            with_reducible refine wpStill_want ?hw (fun K hK => ?_)
            case hw => kernel_rfl
            (go_simp; refine hK _ ?_; clear hK K)
            with_reducible refine wpStill_want ?hw (fun K hK => ?_)
            case hw => kernel_rfl
            (go_simp; refine hK _ ?_; clear hK K)
            exact wpStill_nil rfl

          simp only [picked, List.filterMap_nil]
          refine wpList_nil (OnlyNormal.mk ?_)
          go_wp2_with fail
          go_roundw
          case rel =>
            have hq := HQ.out ()
            have hu := HU.out ()
            have hz := HZ.out
            rw [hu] at hz
            subst hq
            exact ⟨s, _, Lib.hid (HF.out.down hlt hz), i1, by omega, by omega, rfl, by go_num, Lib.hid ⟨HS1.out.row, HB1.out⟩⟩
          case measure => simp [intOf]; omega
        · have hlv' : (c < 0) = False := eq_false hlv
          have HZ := Lib.hid (fun h => hlv ((HLT.out ()).2 h))
          clear hlv HLT
          go_wp2_with fail
          refine OnlyNormal.mk ?_
          apply wpStages_last
          case hT => exact ⟨HCX1.out, HCY1.out⟩
          case hn => exact Nat.le_refl _
          case hq =>
            intro w2 hT
            clear hT
            simp only [picked, List.filterMap_cons, List.filterMap_nil, List.getElem?_cons_zero, List.getElem?_cons_succ]
            with_reducible refine wpStill_want ?hw (fun K hK => ?_)
            case hw => kernel_rfl
            (go_simp; refine hK _ ?_; clear hK K)
            with_reducible refine wpStill_want ?hw (fun K hK => ?_)
            case hw => kernel_rfl
            (go_simp; refine hK _ ?_; clear hK K)
            exact wpStill_nil rfl

          simp only [picked, List.filterMap_nil]
          refine wpList_nil (OnlyNormal.mk ?_)
          go_wp2_with fail
          go_roundw
          case rel =>
            have hq := HQ.out ()
            have hu := HU.out ()
            have hz := HZ.out
            rw [hu] at hz
            subst hq
            refine ⟨_, r, Lib.hid (HF.out.up hlt (fun h1 => ?_)), by omega, by omega, i3, by go_num, rfl, Lib.hid ⟨HS1.out.row, HB1.out⟩⟩
            rcases hz1 : zt d ((s + r) / 2) with _ | _
            · exact absurd ⟨h1, hz1⟩ hz
            · rfl
          case measure => simp [intOf]; omega
      · obtain rfl : s = r := by omega
        have hlt' : ((s : Int) < (s : Int)) = False := eq_false (by omega)
        obtain ⟨e, he⟩ : ∃ e, e = half + m - s := ⟨_, rfl⟩
        have ee : (nn : Int) - (s : Int) = (e : Int) := by omega
        have HE0 := Lib.hid (fun (_ : Unit) => he)
        have HFB := HF.out.bounds
        have ebd : e ≤ b := by omega
        replace HF := Lib.hid HF
        obtain ⟨hb1, hb2, hb3, hb4, hb5, hb6, hb7⟩ := HFB
        have ed1 : e + s ≤ half + m ∧ half + m ≤ e + s := by omega
        clear he
        by_cases hx : s < m ∧ m < e
        · obtain ⟨h1, h2⟩ := hx
          have b_sm : ((s : Int) < (m : Int)) = True := eq_true (by omega)
          have b_me : ((m : Int) < (e : Int)) = True := eq_true (by omega)
          have b_shalf : ((s : Int) < (half : Int)) = True := eq_true (by omega)
          have b_halfe : ((half : Int) < (e : Int)) = True := eq_true (by omega)
          have HC := Lib.hid (rotate_any g cap t A d B s m e (.func (.func 17) #[] #[]) wr HI.out.1 (by have := (HN.out ()).1; omega) h1 h2 (by have := (HN.out ()).1; omega))
          rw [← (HN.out ()).1, ← (HN.out ()).2] at HC
          go_wp2_with fail
          refine HC.out.mono ?_
          clear HC
          rintro ev w1 ⟨rfl, hr⟩
          obtain ⟨d1, r1, r2, r3, r4⟩ := hr
          have HD := Lib.hid (show RowAt w1 g t A d1 B ∧ Rel a b d d1 ∧ Ready a b half s e d1 ∧ Frame [g] w w1 from by
            have hf := HF.out.out
            have he := (HE0.out ())
            rw [he] at r3 h2 ⊢
            have ht := hf.turn (by have := (HN.out ()).1; omega) r2 r3 h1 h2
            exact ⟨r1, ht.1, ht.2, (Frame.of_below [g] HI.out.2).trans r4⟩)
          clear r1 r2 r3 r4
          by_cases h3 : a < s
          · have b_as : ((a : Int) < (s : Int)) = True := eq_true (by omega)
            have HC := Lib.hid (REC.out d1 w1 a s half (H.out.moved HD.out.1 (HD.out.2.1.marks H.out.mks) HD.out.2.2.2) (HD.out.2.1.len.trans (HN.out ()).1.symm) (by omega) (by omega) (by omega) (by omega) HD.out.2.2.1.s1 HD.out.2.2.1.s2)
            go_wp2_with fail
            refine HC.out.mono ?_
            clear HC
            rintro ev w2 ⟨rfl, hr⟩
            have HE := Lib.hid (show Half2 g t A d B a b half s e w w2 from by
              obtain ⟨d2, r1, r2, r3, r4⟩ := hr
              exact ⟨d1, d2, HD.out.2.1, HD.out.2.2.1, r2, r3, r1, HD.out.2.2.2.trans r4⟩)
            clear hr HD
            by_cases h4 : e < b
            · have b_eb : ((e : Int) < (b : Int)) = True := eq_true (by omega)
              obtain ⟨d1, d2, q1, q2, q3, q4, q5, q6⟩ := HE.out
              have HD2 := Lib.hid (And.intro q1 (And.intro q2 (And.intro q3 (And.intro q4 (And.intro q5 q6)))))
              have HC := Lib.hid (REC.out d2 w2 half e b (H.out.moved q5 (q3.marks (q1.marks H.out.mks)) q6) ((q3.len.trans q1.len).trans (HN.out ()).1.symm) (by omega) (by omega) (by omega) (by omega) (q2.s3.rel q3 (.inr (Nat.le_refl _))) (q2.s4.rel q3 (.inr (by omega))))
              clear q1 q2 q3 q4 q5 q6 HE
              go_wp2_with fail
              refine HC.out.mono ?_
              clear HC
              rintro ev w3 ⟨rfl, hr⟩
              have HR := Lib.hid (show SortRes g t A d B a b w w3 from by
                obtain ⟨d3, r1, r2, r3, r4⟩ := hr
                obtain ⟨q1, q2, q3, q4, q5, q6⟩ := HD2.out
                exact ⟨d3, r1, (q1.trans (q3.wide (Nat.le_refl _) (by omega))).trans (r2.wide (by omega) (Nat.le_refl _)), q2.done q3 q4 r2 r3, q6.trans r4⟩)
              clear hr HD2
              go_wp2_with fail
              go_end0
              exact ⟨rfl, HR.out⟩
            · have b_eb : ((e : Int) < (b : Int)) = False := eq_false (by omega)
              have HR := Lib.hid (show SortRes g t A d B a b w w2 from by
                obtain ⟨d1, d2, q1, q2, q3, q4, q5, q6⟩ := HE.out
                have hs : Srt half b d2 := by
                  by_cases he : half < e
                  · have : e = b := by omega
                    subst this
                    exact q2.s3.rel q3 (.inr (Nat.le_refl _))
                  · exact (q2.s4.sub (show e ≤ half by omega) (Nat.le_refl _)).rel q3 (.inr (Nat.le_refl _))
                exact ⟨d2, q5, q1.trans (q3.wide (Nat.le_refl _) (by omega)), q2.done q3 q4 (Rel.refl _ _ _) hs, q6⟩)
              clear HE
              go_wp2_with fail
              go_end0
              exact ⟨rfl, HR.out⟩
          · have b_as : ((a : Int) < (s : Int)) = False := eq_false (by omega)
            obtain ⟨w2, hw2⟩ : ∃ w2, w2 = w1 := ⟨_, rfl⟩
            have HE := Lib.hid (show Half2 g t A d B a b half s e w w2 from by
              subst hw2
              refine ⟨d1, d1, HD.out.2.1, HD.out.2.2.1, Rel.refl _ _ _, ?_, HD.out.1, HD.out.2.2.2⟩
              by_cases hs : s < half
              · have : a = s := by omega
                subst this
                exact HD.out.2.2.1.s2
              · exact HD.out.2.2.1.s1.sub (Nat.le_refl _) (by omega))
            clear HD
            rw [← hw2]
            clear hw2
            by_cases h4 : e < b
            · have b_eb : ((e : Int) < (b : Int)) = True := eq_true (by omega)
              obtain ⟨d1, d2, q1, q2, q3, q4, q5, q6⟩ := HE.out
              have HD2 := Lib.hid (And.intro q1 (And.intro q2 (And.intro q3 (And.intro q4 (And.intro q5 q6)))))
              have HC := Lib.hid (REC.out d2 w2 half e b (H.out.moved q5 (q3.marks (q1.marks H.out.mks)) q6) ((q3.len.trans q1.len).trans (HN.out ()).1.symm) (by omega) (by omega) (by omega) (by omega) (q2.s3.rel q3 (.inr (Nat.le_refl _))) (q2.s4.rel q3 (.inr (by omega))))
              clear q1 q2 q3 q4 q5 q6 HE
              go_wp2_with fail
              refine HC.out.mono ?_
              clear HC
              rintro ev w3 ⟨rfl, hr⟩
              have HR := Lib.hid (show SortRes g t A d B a b w w3 from by
                obtain ⟨d3, r1, r2, r3, r4⟩ := hr
                obtain ⟨q1, q2, q3, q4, q5, q6⟩ := HD2.out
                exact ⟨d3, r1, (q1.trans (q3.wide (Nat.le_refl _) (by omega))).trans (r2.wide (by omega) (Nat.le_refl _)), q2.done q3 q4 r2 r3, q6.trans r4⟩)
              clear hr HD2
              go_wp2_with fail
              go_end0
              exact ⟨rfl, HR.out⟩
            · have b_eb : ((e : Int) < (b : Int)) = False := eq_false (by omega)
              have HR := Lib.hid (show SortRes g t A d B a b w w2 from by
                obtain ⟨d1, d2, q1, q2, q3, q4, q5, q6⟩ := HE.out
                have hs : Srt half b d2 := by
                  by_cases he : half < e
                  · have : e = b := by omega
                    subst this
                    exact q2.s3.rel q3 (.inr (Nat.le_refl _))
                  · exact (q2.s4.sub (show e ≤ half by omega) (Nat.le_refl _)).rel q3 (.inr (Nat.le_refl _))
                exact ⟨d2, q5, q1.trans (q3.wide (Nat.le_refl _) (by omega)), q2.done q3 q4 (Rel.refl _ _ _) hs, q6⟩)
              clear HE
              go_wp2_with fail
              go_end0
              exact ⟨rfl, HR.out⟩
        · have b_sm : ((s : Int) < (m : Int)) = True := eq_true (by omega)
          have b_me : ((m : Int) < (e : Int)) = False := eq_false (by omega)
          have b_as : ((a : Int) < (s : Int)) = True := eq_true (by omega)
          have b_shalf : ((s : Int) < (half : Int)) = False := eq_false (by omega)
          have b_halfe : ((half : Int) < (e : Int)) = True := eq_true (by omega)
          have b_eb : ((e : Int) < (b : Int)) = True := eq_true (by omega)
          obtain ⟨w1, hw1⟩ : ∃ w1, w1 = wr := ⟨_, rfl⟩
          obtain ⟨d1, hd1⟩ : ∃ d1, d1 = d := ⟨_, rfl⟩
          have HD := Lib.hid (show RowAt w1 g t A d1 B ∧ Rel a b d d1 ∧ Ready a b half s e d1 ∧ Frame [g] w w1 from by
            subst hw1 hd1
            have he := (HE0.out ())
            rw [he]
            exact ⟨HI.out.1, Rel.refl _ _ _, HF.out.out.still (by rw [he] at hx; exact hx), Frame.of_below [g] HI.out.2⟩)
          clear hd1 HI
          rw [← hw1]
          clear hw1
          obtain ⟨w2, hw2⟩ : ∃ w2, w2 = w1 := ⟨_, rfl⟩
          have HE := Lib.hid (show Half2 g t A d B a b half s e w w2 from by
            subst hw2
            refine ⟨d1, d1, HD.out.2.1, HD.out.2.2.1, Rel.refl _ _ _, ?_, HD.out.1, HD.out.2.2.2⟩
            by_cases hs : s < half
            · have : a = s := by omega
              subst this
              exact HD.out.2.2.1.s2
            · exact HD.out.2.2.1.s1.sub (Nat.le_refl _) (by omega))
          clear HD
          rw [← hw2]
          clear hw2
          obtain ⟨d1, d2, q1, q2, q3, q4, q5, q6⟩ := HE.out
          have HD2 := Lib.hid (And.intro q1 (And.intro q2 (And.intro q3 (And.intro q4 (And.intro q5 q6)))))
          have HC := Lib.hid (REC.out d2 w2 half e b (H.out.moved q5 (q3.marks (q1.marks H.out.mks)) q6) ((q3.len.trans q1.len).trans (HN.out ()).1.symm) (by omega) (by omega) (by omega) (by omega) (q2.s3.rel q3 (.inr (Nat.le_refl _))) (q2.s4.rel q3 (.inr (by omega))))
          clear q1 q2 q3 q4 q5 q6 HE
          go_wp2_with fail
          refine HC.out.mono ?_
          clear HC
          rintro ev w3 ⟨rfl, hr⟩
          have HR := Lib.hid (show SortRes g t A d B a b w w3 from by
            obtain ⟨d3, r1, r2, r3, r4⟩ := hr
            obtain ⟨q1, q2, q3, q4, q5, q6⟩ := HD2.out
            exact ⟨d3, r1, (q1.trans (q3.wide (Nat.le_refl _) (by omega))).trans (r2.wide (by omega) (Nat.le_refl _)), q2.done q3 q4 r2 r3, q6.trans r4⟩)
          clear hr HD2
          go_wp2_with fail
          go_end0
          exact ⟨rfl, HR.out⟩
  · have hm' : ((half : Int) < (m : Int)) = False := eq_false (by omega)
    obtain ⟨lo, hlo⟩ : ∃ lo, lo = a := ⟨_, rfl⟩
    obtain ⟨hi, hhi⟩ : ∃ hi, hi = m := ⟨_, rfl⟩
    have lohi : lo ≤ hi ∧ hi ≤ m ∧ hi ≤ half ∧ a ≤ lo ∧ half + m ≤ lo + b := by have := HH.out (); omega
    have hF0 : Hid (Found a m b half lo hi d) := Lib.hid ⟨HO.out.1, HO.out.2, by omega, by omega, HH.out (), by rw [if_neg hm, hlo]; exact Nat.le_refl _, lohi.1, by rw [if_neg hm, hhi]; exact Nat.le_refl _, fun hx => by rw [if_neg hm] at hx; omega, fun hx => by rw [if_neg hm] at hx; omega⟩
    go_wp2_with fail
    go_loopw [20, 21] (fun iv jv wr => ∃ s r : Nat, Hid (Found a m b half s r d) ∧ lo ≤ s ∧ s ≤ r ∧ r ≤ hi ∧ iv = .int .i64 (s : Int) ∧ jv = .int .i64 (r : Int) ∧ Hid (RowAt wr g t A d B ∧ Below w.heap.size w wr)) (fun iv jv _ => (intOf jv).toNat - (intOf iv).toNat)
    case atStart => exact ⟨lo, hi, hF0, Nat.le_refl _, by omega, Nat.le_refl _, by first | rfl | rw [hlo], by first | rfl | rw [hhi], Lib.hid ⟨H.out.row, Below.refl _ _⟩⟩
    case round =>
      obtain ⟨s, r, HF, i1, i2, i3, rfl, rfl, HI⟩ := hrel
      have i0 : (0 : Int) ≤ (s : Int) := by omega
      have j0 : (0 : Int) ≤ (r : Int) := by omega
      by_cases hlt : s < r
      · have hlt' : ((s : Int) < (r : Int)) = True := eq_true (by omega)
        obtain ⟨q, hq⟩ : ∃ q, q = (s + r) / 2 := ⟨_, rfl⟩
        have eq : ((s : Int) + (r : Int)) / 2 = (q : Int) := by omega
        have q0 : (0 : Int) ≤ (q : Int) := by omega
        have q1 : (q : Int) < (N : Int) := by omega
        have HS := Lib.hid (H.out.later HI.out.2)
        have HQ := Lib.hid (fun (_ : Unit) => hq)
        have hq2 : s ≤ q ∧ q < r := by omega
        have hlen : d.length = N := (HN.out ()).1.symm
        obtain ⟨u, hu⟩ : ∃ u, u = half + m - 1 - q := ⟨_, rfl⟩
        have eu : (p : Int) - (q : Int) = (u : Int) := by omega
        have u0 : (0 : Int) ≤ (u : Int) := by omega
        have u1 : (u : Int) < (N : Int) := by omega
        have HU := Lib.hid (fun (_ : Unit) => hu)
        have uN : u < N := by omega
        have hwu : IntKind.i64.wrap (u : Int) = (u : Int) := IntWalk.i64_in _ (by omega)
        clear hq hu
        obtain ⟨x, hx⟩ : ∃ x, d.getD (u) 0 = x := ⟨_, rfl⟩
        obtain ⟨y, hy⟩ : ∃ y, d.getD (q) 0 = y := ⟨_, rfl⟩
        have hcx := HS.out.row.cell (getD_at (d := d) (i := u) (by omega))
        have hcy := HS.out.row.cell (getD_at (d := d) (i := q) (by omega))
        rw [hx, ← (HN.out ()).2] at hcx
        rw [hy, ← (HN.out ()).2] at hcy
        have HCX := Lib.hid hcx
        have HCY := Lib.hid hcy
        have hlt2 : clsR x - clsR y < 0 ↔ zt d (u) = true ∧ zt d (q) = false := by
          unfold zt
          rw [hx, hy]
          refine cls_lt ?_ ?_
          · rw [← hx]; exact mk_at HS.out.mks (by omega)
          · rw [← hy]; exact mk_at HS.out.mks (by omega)
        have HC := Lib.hid (HS.out.later (below_drew _) |>.cmp x y)
        obtain ⟨c, hc⟩ : ∃ c, c = clsR x - clsR y := ⟨_, rfl⟩
        rw [← hc] at HC hlt2
        have HLT := Lib.hid (fun (_ : Unit) => hlt2)
        clear hx hy hcx hcy hc hlt2 hlen
        go_wp2_with fail
        refine wp_region_plan (fun w2 => w2.cell? ⟨g, off + (u), none⟩ = some (.int .i32 x) ∧ w2.cell? ⟨g, off + (q), none⟩ = some (.int .i32 y)) 220 [([0, 1, 2, 3, 7, 8, 4, 9, 5, 10, 6], [11], false), ([12, 13], [], false)] (by kernel_rfl) (by kernel_rfl) ?_
        apply wpStages_step
        case hT => exact ⟨HCX.out, HCY.out⟩
        case hn => exact Nat.le_refl _
        case hq =>
          intro w2 hT
          obtain ⟨cx, cy⟩ := hT
          simp only [picked, List.filterMap_cons, List.filterMap_nil, List.getElem?_cons_zero, List.getElem?_cons_succ]
          with_reducible refine wpStill_want ?hw (fun K hK => ?_)
          case hw => kernel_rfl
          (go_simp; refine hK _ ?_; clear hK K)
          with_reducible refine wpStill_want ?hw (fun K hK => ?_)
          case hw => kernel_rfl
          (go_simp; refine hK _ ?_; clear hK K)
          with_reducible refine wpStill_want ?hw (fun K hK => ?_)
          case hw => kernel_rfl
          (go_simp; refine hK _ ?_; clear hK K)
          with_reducible refine wpStill_want ?hw (fun K hK => ?_)
          case hw => kernel_rfl
          (go_simp; refine hK _ ?_; clear hK K)
          with_reducible refine wpStill_want ?hw (fun K hK => ?_)
          case hw => kernel_rfl
          (go_simp; refine hK _ ?_; clear hK K)
          with_reducible refine wpStill_want ?hw (fun K hK => ?_)
          case hw => kernel_rfl
          (go_simp; refine hK _ ?_; clear hK K)
          with_reducible refine wpStill_want ?hw (fun K hK => ?_)
          case hw => kernel_rfl
          (go_simp; refine hK _ ?_; clear hK K)
          with_reducible refine wpStill_want ?hw (fun K hK => ?_)
          case hw => kernel_rfl
          (go_simp; refine hK _ ?_; clear hK K)
          with_reducible refine wpStill_want ?hw (fun K hK => ?_)
          case hw => kernel_rfl
          (go_simp; refine hK _ ?_; clear hK K)
          with_reducible refine wpStill_want ?hw (fun K hK => ?_)
          case hw => kernel_rfl
          (go_simp; refine hK _ ?_; clear hK K)
          with_reducible refine wpStill_want ?hw (fun K hK => ?_)
          case hw => kernel_rfl
          (go_simp; refine hK _ ?_; clear hK K)
          exact wpStill_nil rfl

        simp only [picked, List.filterMap_cons, List.filterMap_nil, List.getElem?_cons_zero, List.getElem?_cons_succ]
        go_wp2_with fail
        refine HC.out.mono ?_
        clear HC
        rintro e w1 ⟨rfl, hb1⟩
        have hb1' : Below wr.heap.size wr w1 := (below_drew wr).trans hb1
        have HCX1 := Lib.hid ((hb1'.cell HS.out.lt).trans HCX.out)
        have HCY1 := Lib.hid ((hb1'.cell HS.out.lt).trans HCY.out)
        have HS1 := Lib.hid (HS.out.later hb1')
        have HB1 := Lib.hid (HI.out.2.trans (hb1'.mono HI.out.2.size))
        clear hb1 hb1' HS HI
        by_cases hlv : c < 0
        · have hlv' : (c < 0) = True := eq_true hlv
          have HZ := Lib.hid ((HLT.out ()).1 hlv)
          clear hlv HLT
          go_wp2_with fail
          refine OnlyNormal.mk ?_
          apply wpStages_last
          case hT => exact ⟨HCX1.out, HCY1.out⟩
          case hn => exact Nat.le_refl _
          case hq =>
            intro w2 hT
            clear hT
            simp only [picked, List.filterMap_cons, List.filterMap_nil, List.getElem?_cons_zero, List.getElem?_cons_succ]
            with_reducible refine wpStill_want ?hw (fun K hK => ?_)
            case hw => kernel_rfl
            (go_simp; refine hK _ ?_; clear hK K)
            with_reducible refine wpStill_want ?hw (fun K hK => ?_)
            case hw => kernel_rfl
            (go_simp; refine hK _ ?_; clear hK K)
            exact wpStill_nil rfl

          simp only [picked, List.filterMap_nil]
          refine wpList_nil (OnlyNormal.mk ?_)
          go_wp2_with fail
          go_roundw
          case rel =>
            have hq := HQ.out ()
            have hu := HU.out ()
            have hz := HZ.out
            rw [hu] at hz
            subst hq
            exact ⟨s, _, Lib.hid (HF.out.down hlt hz), i1, by omega, by omega, rfl, by go_num, Lib.hid ⟨HS1.out.row, HB1.out⟩⟩
          case measure => simp [intOf]; omega
        · have hlv' : (c < 0) = False := eq_false hlv
          have HZ := Lib.hid (fun h => hlv ((HLT.out ()).2 h))
          clear hlv HLT
          go_wp2_with fail
          refine OnlyNormal.mk ?_
          apply wpStages_last
          case hT => exact ⟨HCX1.out, HCY1.out⟩
          case hn => exact Nat.le_refl _
          case hq =>
            intro w2 hT
            clear hT
            simp only [picked, List.filterMap_cons, List.filterMap_nil, List.getElem?_cons_zero, List.getElem?_cons_succ]
            with_reducible refine wpStill_want ?hw (fun K hK => ?_)
            case hw => kernel_rfl
            (go_simp; refine hK _ ?_; clear hK K)
            with_reducible refine wpStill_want ?hw (fun K hK => ?_)
            case hw => kernel_rfl
            (go_simp; refine hK _ ?_; clear hK K)
            exact wpStill_nil rfl

          simp only [picked, List.filterMap_nil]
          refine wpList_nil (OnlyNormal.mk ?_)
          go_wp2_with fail
          go_roundw
          case rel =>
            have hq := HQ.out ()
            have hu := HU.out ()
            have hz := HZ.out
            rw [hu] at hz
            subst hq
            refine ⟨_, r, Lib.hid (HF.out.up hlt (fun h1 => ?_)), by omega, by omega, i3, by go_num, rfl, Lib.hid ⟨HS1.out.row, HB1.out⟩⟩
            rcases hz1 : zt d ((s + r) / 2) with _ | _
            · exact absurd ⟨h1, hz1⟩ hz
            · rfl
          case measure => simp [intOf]; omega
      · obtain rfl : s = r := by omega
        have hlt' : ((s : Int) < (s : Int)) = False := eq_false (by omega)
        obtain ⟨e, he⟩ : ∃ e, e = half + m - s := ⟨_, rfl⟩
        have ee : (nn : Int) - (s : Int) = (e : Int) := by omega
        have HE0 := Lib.hid (fun (_ : Unit) => he)
        have HFB := HF.out.bounds
        have ebd : e ≤ b := by omega
        replace HF := Lib.hid HF
        obtain ⟨hb1, hb2, hb3, hb4, hb5, hb6, hb7⟩ := HFB
        have ed1 : e + s ≤ half + m ∧ half + m ≤ e + s := by omega
        clear he
        by_cases hx : s < m ∧ m < e
        · obtain ⟨h1, h2⟩ := hx
          have b_sm : ((s : Int) < (m : Int)) = True := eq_true (by omega)
          have b_me : ((m : Int) < (e : Int)) = True := eq_true (by omega)
          have b_shalf : ((s : Int) < (half : Int)) = True := eq_true (by omega)
          have b_halfe : ((half : Int) < (e : Int)) = True := eq_true (by omega)
          have HC := Lib.hid (rotate_any g cap t A d B s m e (.func (.func 17) #[] #[]) wr HI.out.1 (by have := (HN.out ()).1; omega) h1 h2 (by have := (HN.out ()).1; omega))
          rw [← (HN.out ()).1, ← (HN.out ()).2] at HC
          go_wp2_with fail
          refine HC.out.mono ?_
          clear HC
          rintro ev w1 ⟨rfl, hr⟩
          obtain ⟨d1, r1, r2, r3, r4⟩ := hr
          have HD := Lib.hid (show RowAt w1 g t A d1 B ∧ Rel a b d d1 ∧ Ready a b half s e d1 ∧ Frame [g] w w1 from by
            have hf := HF.out.out
            have he := (HE0.out ())
            rw [he] at r3 h2 ⊢
            have ht := hf.turn (by have := (HN.out ()).1; omega) r2 r3 h1 h2
            exact ⟨r1, ht.1, ht.2, (Frame.of_below [g] HI.out.2).trans r4⟩)
          clear r1 r2 r3 r4
          by_cases h3 : a < s
          · have b_as : ((a : Int) < (s : Int)) = True := eq_true (by omega)
            have HC := Lib.hid (REC.out d1 w1 a s half (H.out.moved HD.out.1 (HD.out.2.1.marks H.out.mks) HD.out.2.2.2) (HD.out.2.1.len.trans (HN.out ()).1.symm) (by omega) (by omega) (by omega) (by omega) HD.out.2.2.1.s1 HD.out.2.2.1.s2)
            go_wp2_with fail
            refine HC.out.mono ?_
            clear HC
            rintro ev w2 ⟨rfl, hr⟩
            have HE := Lib.hid (show Half2 g t A d B a b half s e w w2 from by
              obtain ⟨d2, r1, r2, r3, r4⟩ := hr
              exact ⟨d1, d2, HD.out.2.1, HD.out.2.2.1, r2, r3, r1, HD.out.2.2.2.trans r4⟩)
            clear hr HD
            by_cases h4 : e < b
            · have b_eb : ((e : Int) < (b : Int)) = True := eq_true (by omega)
              obtain ⟨d1, d2, q1, q2, q3, q4, q5, q6⟩ := HE.out
              have HD2 := Lib.hid (And.intro q1 (And.intro q2 (And.intro q3 (And.intro q4 (And.intro q5 q6)))))
              have HC := Lib.hid (REC.out d2 w2 half e b (H.out.moved q5 (q3.marks (q1.marks H.out.mks)) q6) ((q3.len.trans q1.len).trans (HN.out ()).1.symm) (by omega) (by omega) (by omega) (by omega) (q2.s3.rel q3 (.inr (Nat.le_refl _))) (q2.s4.rel q3 (.inr (by omega))))
              clear q1 q2 q3 q4 q5 q6 HE
              go_wp2_with fail
              refine HC.out.mono ?_
              clear HC
              rintro ev w3 ⟨rfl, hr⟩
              have HR := Lib.hid (show SortRes g t A d B a b w w3 from by
                obtain ⟨d3, r1, r2, r3, r4⟩ := hr
                obtain ⟨q1, q2, q3, q4, q5, q6⟩ := HD2.out
                exact ⟨d3, r1, (q1.trans (q3.wide (Nat.le_refl _) (by omega))).trans (r2.wide (by omega) (Nat.le_refl _)), q2.done q3 q4 r2 r3, q6.trans r4⟩)
              clear hr HD2
              go_wp2_with fail
              go_end0
              exact ⟨rfl, HR.out⟩
            · have b_eb : ((e : Int) < (b : Int)) = False := eq_false (by omega)
              have HR := Lib.hid (show SortRes g t A d B a b w w2 from by
                obtain ⟨d1, d2, q1, q2, q3, q4, q5, q6⟩ := HE.out
                have hs : Srt half b d2 := by
                  by_cases he : half < e
                  · have : e = b := by omega
                    subst this
                    exact q2.s3.rel q3 (.inr (Nat.le_refl _))
                  · exact (q2.s4.sub (show e ≤ half by omega) (Nat.le_refl _)).rel q3 (.inr (Nat.le_refl _))
                exact ⟨d2, q5, q1.trans (q3.wide (Nat.le_refl _) (by omega)), q2.done q3 q4 (Rel.refl _ _ _) hs, q6⟩)
              clear HE
              go_wp2_with fail
              go_end0
              exact ⟨rfl, HR.out⟩
          · have b_as : ((a : Int) < (s : Int)) = False := eq_false (by omega)
            obtain ⟨w2, hw2⟩ : ∃ w2, w2 = w1 := ⟨_, rfl⟩
            have HE := Lib.hid (show Half2 g t A d B a b half s e w w2 from by
              subst hw2
              refine ⟨d1, d1, HD.out.2.1, HD.out.2.2.1, Rel.refl _ _ _, ?_, HD.out.1, HD.out.2.2.2⟩
              by_cases hs : s < half
              · have : a = s := by omega
                subst this
                exact HD.out.2.2.1.s2
              · exact HD.out.2.2.1.s1.sub (Nat.le_refl _) (by omega))
            clear HD
            rw [← hw2]
            clear hw2
            by_cases h4 : e < b
            · have b_eb : ((e : Int) < (b : Int)) = True := eq_true (by omega)
              obtain ⟨d1, d2, q1, q2, q3, q4, q5, q6⟩ := HE.out
              have HD2 := Lib.hid (And.intro q1 (And.intro q2 (And.intro q3 (And.intro q4 (And.intro q5 q6)))))
              have HC := Lib.hid (REC.out d2 w2 half e b (H.out.moved q5 (q3.marks (q1.marks H.out.mks)) q6) ((q3.len.trans q1.len).trans (HN.out ()).1.symm) (by omega) (by omega) (by omega) (by omega) (q2.s3.rel q3 (.inr (Nat.le_refl _))) (q2.s4.rel q3 (.inr (by omega))))
              clear q1 q2 q3 q4 q5 q6 HE
              go_wp2_with fail
              refine HC.out.mono ?_
              clear HC
              rintro ev w3 ⟨rfl, hr⟩
              have HR := Lib.hid (show SortRes g t A d B a b w w3 from by
                obtain ⟨d3, r1, r2, r3, r4⟩ := hr
                obtain ⟨q1, q2, q3, q4, q5, q6⟩ := HD2.out
                exact ⟨d3, r1, (q1.trans (q3.wide (Nat.le_refl _) (by omega))).trans (r2.wide (by omega) (Nat.le_refl _)), q2.done q3 q4 r2 r3, q6.trans r4⟩)
              clear hr HD2
              go_wp2_with fail
              go_end0
              exact ⟨rfl, HR.out⟩
            · have b_eb : ((e : Int) < (b : Int)) = False := eq_false (by omega)
              have HR := Lib.hid (show SortRes g t A d B a b w w2 from by
                obtain ⟨d1, d2, q1, q2, q3, q4, q5, q6⟩ := HE.out
                have hs : Srt half b d2 := by
                  by_cases he : half < e
                  · have : e = b := by omega
                    subst this
                    exact q2.s3.rel q3 (.inr (Nat.le_refl _))
                  · exact (q2.s4.sub (show e ≤ half by omega) (Nat.le_refl _)).rel q3 (.inr (Nat.le_refl _))
                exact ⟨d2, q5, q1.trans (q3.wide (Nat.le_refl _) (by omega)), q2.done q3 q4 (Rel.refl _ _ _) hs, q6⟩)
              clear HE
              go_wp2_with fail
              go_end0
              exact ⟨rfl, HR.out⟩
        · have b_sm : ((s : Int) < (m : Int)) = False := eq_false (by omega)
          have b_as : ((a : Int) < (s : Int)) = True := eq_true (by omega)
          have b_halfe : ((half : Int) < (e : Int)) = False := eq_false (by omega)
          obtain ⟨w1, hw1⟩ : ∃ w1, w1 = wr := ⟨_, rfl⟩
          obtain ⟨d1, hd1⟩ : ∃ d1, d1 = d := ⟨_, rfl⟩
          have HD := Lib.hid (show RowAt w1 g t A d1 B ∧ Rel a b d d1 ∧ Ready a b half s e d1 ∧ Frame [g] w w1 from by
            subst hw1 hd1
            have he := (HE0.out ())
            rw [he]
            exact ⟨HI.out.1, Rel.refl _ _ _, HF.out.out.still (by rw [he] at hx; exact hx), Frame.of_below [g] HI.out.2⟩)
          clear hd1 HI
          rw [← hw1]
          clear hw1
          by_cases h3 : s < half
          · have b_shalf : ((s : Int) < (half : Int)) = True := eq_true (by omega)
            have HC := Lib.hid (REC.out d1 w1 a s half (H.out.moved HD.out.1 (HD.out.2.1.marks H.out.mks) HD.out.2.2.2) (HD.out.2.1.len.trans (HN.out ()).1.symm) (by omega) (by omega) (by omega) (by omega) HD.out.2.2.1.s1 HD.out.2.2.1.s2)
            go_wp2_with fail
            refine HC.out.mono ?_
            clear HC
            rintro ev w2 ⟨rfl, hr⟩
            have HE := Lib.hid (show Half2 g t A d B a b half s e w w2 from by
              obtain ⟨d2, r1, r2, r3, r4⟩ := hr
              exact ⟨d1, d2, HD.out.2.1, HD.out.2.2.1, r2, r3, r1, HD.out.2.2.2.trans r4⟩)
            clear hr HD
            have HR := Lib.hid (show SortRes g t A d B a b w w2 from by
              obtain ⟨d1, d2, q1, q2, q3, q4, q5, q6⟩ := HE.out
              have hs : Srt half b d2 := by
                by_cases he : half < e
                · have : e = b := by omega
                  subst this
                  exact q2.s3.rel q3 (.inr (Nat.le_refl _))
                · exact (q2.s4.sub (show e ≤ half by omega) (Nat.le_refl _)).rel q3 (.inr (Nat.le_refl _))
              exact ⟨d2, q5, q1.trans (q3.wide (Nat.le_refl _) (by omega)), q2.done q3 q4 (Rel.refl _ _ _) hs, q6⟩)
            clear HE
            go_wp2_with fail
            go_end0
            exact ⟨rfl, HR.out⟩
          · have b_shalf : ((s : Int) < (half : Int)) = False := eq_false (by omega)
            obtain ⟨w2, hw2⟩ : ∃ w2, w2 = w1 := ⟨_, rfl⟩
            have HE := Lib.hid (show Half2 g t A d B a b half s e w w2 from by
              subst hw2
              refine ⟨d1, d1, HD.out.2.1, HD.out.2.2.1, Rel.refl _ _ _, ?_, HD.out.1, HD.out.2.2.2⟩
              by_cases hs : s < half
              · have : a = s := by omega
                subst this
                exact HD.out.2.2.1.s2
              · exact HD.out.2.2.1.s1.sub (Nat.le_refl _) (by omega))
            clear HD
            rw [← hw2]
            clear hw2
            have HR := Lib.hid (show SortRes g t A d B a b w w2 from by
              obtain ⟨d1, d2, q1, q2, q3, q4, q5, q6⟩ := HE.out
              have hs : Srt half b d2 := by
                by_cases he : half < e
                · have : e = b := by omega
                  subst this
                  exact q2.s3.rel q3 (.inr (Nat.le_refl _))
                · exact (q2.s4.sub (show e ≤ half by omega) (Nat.le_refl _)).rel q3 (.inr (Nat.le_refl _))
              exact ⟨d2, q5, q1.trans (q3.wide (Nat.le_refl _) (by omega)), q2.done q3 q4 (Rel.refl _ _ _) hs, q6⟩)
            clear HE
            go_wp2_with fail
            go_end0
            exact ⟨rfl, HR.out⟩

theorem symMerge_any (B0 g cap : Nat) (t : TypeId) (A B : List Value) : ∀ (n : Nat) (d : List Int) (w : World) (a m b : Nat), b - a ≤ n → InSort B0 w g t A d B → d.length ≤ 1000 → a < m → m < b → b ≤ d.length → Srt a m d → Srt m b d →
    Calls Tryd.prog 23 #[.slice (some ⟨g, A.length, none⟩) d.length cap, .int .i64 (a : Int), .int .i64 (m : Int), .int .i64 (b : Int), .func (.func 17) #[] #[]] w (Ret (.tuple #[]) (SortRes g t A d B a b w))
  | 0, _, _, _, _, _, h, _, _, h1, h2, _, _, _ => by omega
  | n + 1, d, w, a, m, b, hn, h, hl, h1, h2, hb, s1, s2 => by
    by_cases c1 : m = a + 1
    · exact symL_any B0 g cap t A d B a m b w h hl c1 h2 hb s2
    · by_cases c2 : b = m + 1
      · exact symR_any B0 g cap t A d B a m b w h hl (by omega) c2 hb s1
      · exact symG_any B0 g cap t A d B a m b w h hl (by omega) (by omega) hb ⟨s1, s2⟩ fun d1 w1 a1 m1 b1 q1 q2 q3 q4 q5 q6 q7 q8 => symMerge_any B0 g cap t A B n d1 w1 a1 m1 b1 (by omega) q1 (by omega) q3 q4 (by omega) q7 q8

end Go.Proofs.YtkapmpngglibjaaDoor
