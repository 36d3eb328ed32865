/- The law TopWalk walked. Conditions: each contract's own premises. -/
import Derived.Test.YtkapmpngglibjaaTreO
import Derived.Test.YtkapmpngglibjaaTop1
namespace Go.Proofs.Ytkapmpngglibjaa
open Go Go.RowKit

def itA : Itm := ⟨⟨#[97]⟩, ⟨#[97]⟩, 1⟩
theorem tkA1 : tk ⟨#[97]⟩ 5 [itA] = [] := by
  rw [tk, gtr_none (fun x hx hl => by rw [List.mem_singleton.1 hx] at hl; exact not_self hl)]
  rfl
theorem keyA : (⟨#[97]⟩ : ByteArray).toList ≠ [] := by
  rw [show (⟨#[97]⟩ : ByteArray).toList = [97] from by kernel_rfl]
  simp
theorem tkA2 : tk ⟨#[]⟩ 5 [itA] = [itA] := by
  rw [tk, gtr_empty [itA] (fun x hx => by rw [List.mem_singleton.1 hx]; exact keyA)]
  rfl
theorem ris_nil : RisI [] := by
  first | trivial | simp [RisI, KI, Rising]

set_option maxHeartbeats 8000000 in
set_option maxRecDepth 100000 in
theorem topWalk_any (v : Value) (l : List (ActM × Value)) (many : Int) (w : World) (h : ActsAt w v l) :
    Calls Try.prog 5 #[v, .int .i64 many] w (Ret (.bool true) fun w' => Below w.heap.size w w') := by
  obtain ⟨i59, gi, gz0, gz1, gz2⟩ := info_parts info59
  have HA := Lib.hid h
  clear h
  go_enter Try.func5, Try.ntmps5
  go_wp2_with fail
  refine (new_any w).mono ?_
  rintro e w1 ⟨v1, rfl, tb, X, rfl, hT, hB1, hX⟩
  have hS1 : WalkSt w.heap.size w1 tb [] := ⟨⟨1, X, hT, hX⟩, ris_nil, fun x hx => by cases hx⟩
  have HP := Lib.hid (st_put w.heap.size w1 tb [] ⟨#[97]⟩ 1 hS1 hB1.size keyA)
  have HB1 := Lib.hid hB1
  clear hT hX hS1 hB1
  unfold ptrV at HP ⊢
  go_wp2_with fail
  refine HP.out.mono ?_
  clear HP
  rintro e w2 ⟨rfl, L1, hS2, hi2, hB2⟩
  obtain rfl := ins_nil hi2
  have HS2 := Lib.hid (show WalkSt w.heap.size w2 tb [itA] ∧ Below w.heap.size w w2 from ⟨hS2, HB1.out.trans hB2⟩)
  clear hS2 hi2 hB2 HB1
  have HQ := Lib.hid (st_after w.heap.size w2 tb [itA] ⟨#[97]⟩ 5 HS2.out.1 (by omega))
  unfold ptrV at HQ
  go_wp2_with fail
  refine HQ.out.mono ?_
  clear HQ
  rintro e w3 ⟨v3, rfl, hB3, ho3⟩
  rw [tkA1] at ho3
  obtain ⟨ao3, cap3, rfl⟩ := ownsForm ho3
  have HS3 := Lib.hid (show WalkSt w.heap.size w3 tb [itA] ∧ Below w.heap.size w w3 from ⟨HS2.out.1.later hB3, HS2.out.2.trans (hB3.mono HS2.out.2.size)⟩)
  clear ho3 hB3 HS2
  have HQ := Lib.hid (st_after w.heap.size w3 tb [itA] ⟨#[]⟩ 5 HS3.out.1 (by omega))
  unfold ptrV at HQ
  go_wp2_with fail
  refine HQ.out.mono ?_
  clear HQ
  rintro e w4 ⟨v4, rfl, hB4, ho4⟩
  rw [tkA2] at ho4
  obtain ⟨ao4, cap4, rfl⟩ := ownsForm ho4
  have HS4 := Lib.hid (show WalkSt w.heap.size w4 tb [itA] ∧ Below w.heap.size w w4 from ⟨HS3.out.1.later hB4, HS3.out.2.trans (hB4.mono HS3.out.2.size)⟩)
  clear ho4 hB4 HS3
  go_wp2_with fail
  refine (lightActs_any _ l 100 _ (HA.out.below HS4.out.2)).mono ?_
  rintro e w5 ⟨rfl, rfl⟩
  by_cases hl1 : lightActs l 100 = true
  case neg =>
    rw [Bool.not_eq_true] at hl1
    rw [hl1]
    go_wp2_with fail
    go_ret
    exact Ret.of rfl HS4.out.2
  rw [hl1]
  have hlen : l.length ≤ 100 := by
    simp [lightActs] at hl1
    omega
  clear hl1
  obtain ⟨ao1, cap1, rfl, hm1, hg1⟩ := HA.out.get
  have HG := Lib.hid hg1
  clear hm1 hg1 HA
  obtain ⟨n1, hn1⟩ : ∃ n, n = l.length := ⟨_, rfl⟩
  rw [← hn1] at hlen ⊢
  have HN := Lib.hid (fun (_ : Unit) => hn1)
  clear hn1
  have i0 : (0 : Int) ≤ (n1 : Int) := by omega
  have i1 : (n1 : Int) ≤ 100 := by omega
  go_wp2_with fail
  go_loopw [6] (fun i wr => ∃ k : Nat, k ≤ n1 ∧ i = .int .i64 (k : Int) ∧ Hid (∃ L, WalkSt w.heap.size wr tb L ∧ Below w.heap.size w wr ∧ L.length ≤ 1 + k)) (fun i _ => n1 - (intOf i).toNat)
  case atStart => exact ⟨0, by omega, rfl, Lib.hid ⟨[itA], HS4.out.1, HS4.out.2, by simp⟩⟩
  case round =>
    obtain ⟨k, hk, rfl, HI⟩ := hrel
    have b0 : (0 : Int) ≤ (k : Int) := by omega
    obtain ⟨L, hst⟩ := HI.out
    have HST := Lib.hid hst
    clear HI hst
    by_cases hlt : k < n1
    · have b1 : (k : Int) < (n1 : Int) := by omega
      obtain ⟨x, hx⟩ : ∃ x, l[k]? = some x := ⟨_, List.getElem?_eq_getElem (by rw [← HN.out ()]; exact hlt)⟩
      obtain ⟨ba, off, xo, xn, xc, rfl, hx2, g1, g2, -, hc⟩ := HG.out k x hx
      obtain ⟨-, c1, -, c3, -, -⟩ := hc wr HST.out.2.1
      clear hc hx2 hx g1 g2 c3
      obtain ⟨s, hs⟩ : ∃ s, s = x.1.s := ⟨_, rfl⟩
      rw [← hs] at c1
      clear hs
      by_cases hs0 : s.toList.isEmpty = true
      · go_wp2_with fail
        go_roundw
        case rel =>
          refine ⟨k + 1, by omega, by go_num, Lib.hid ⟨L, HST.out.1, HST.out.2.1, ?_⟩⟩
          have := HST.out.2.2
          omega
        case measure => simp [intOf]; omega
      · rw [Bool.not_eq_true] at hs0
        have hsk : s.toList ≠ [] := fun e => by rw [e] at hs0; cases hs0
        have HP := Lib.hid (st_put w.heap.size wr.drew tb L s 0 (HST.out.1.later ⟨rfl, rfl, rfl, Nat.le_refl _, fun _ _ => rfl⟩) HST.out.2.1.size hsk)
        clear hsk
        unfold ptrV at HP
        go_wp2_with fail
        refine wp_region_plan (fun w2 => w2 = wr.drew) 114 [([0, 1, 2, 6, 7, 3, 8, 4, 9, 5, 10, 11], [12], false)] (by kernel_rfl) (by kernel_rfl) ?_
        apply wpStages_last
        case hT => rfl
        case hn => exact Nat.le_refl _
        case hq =>
          rintro w2 rfl
          simp only [picked, List.filterMap_cons, List.filterMap_nil, List.getElem?_cons_zero, List.getElem?_cons_succ]
          repeat still_step
          exact wpStill_nil rfl
        simp only [picked, List.filterMap_cons, List.filterMap_nil, List.getElem?_cons_zero, List.getElem?_cons_succ]
        go_wp2_with fail
        refine HP.out.mono ?_
        clear HP
        rintro e w6 ⟨rfl, L6, hS6, hi6, hB6⟩
        have HR := Lib.hid (show ∃ L, WalkSt w.heap.size w6 tb L ∧ Below w.heap.size w w6 ∧ L.length ≤ 1 + (k + 1) from ⟨L6, hS6, HST.out.2.1.trans ⟨hB6.os, hB6.tape, hB6.output, hB6.size, hB6.block⟩, by
          have h1 := hi6.len
          have h2 := HST.out.2.2
          omega⟩)
        clear hS6 hi6 hB6 HST
        go_wp2_with fail
        refine OnlyNormal.mk ?_
        go_wp2_with fail
        go_roundw
        case rel => exact ⟨k + 1, by omega, by go_num, HR⟩
        case measure => simp [intOf]; omega
    · obtain rfl : k = n1 := by omega
      have hL : L.length ≤ 101 := by
        have := HST.out.2.2
        omega
      obtain ⟨q, hq, hq0, hq7⟩ : ∃ q, bits BinOp.and IntKind.i64 many 7 = q ∧ 0 ≤ q ∧ q ≤ 7 := ⟨_, rfl, (and7 many).1, (and7 many).2⟩
      have HB := Lib.hid HST.out.2.1
      have HS := Lib.hid HST.out.1
      clear HST HN HG hlt i0 i1 b0 hk hlen
      have HQ := Lib.hid (st_many w.heap.size wr tb L HS.out (by omega))
      unfold ptrV at HQ
      go_wp2_with fail
      refine HQ.out.mono ?_
      clear HQ
      rintro e w5 ⟨v5, rfl, rfl, hB5⟩
      clear hq
      have HB5 := Lib.hid (show Below w.heap.size w w5 from HB.out.trans (hB5.mono HB.out.size))
      have HS5 := Lib.hid (HS.out.later hB5)
      clear HB HS hB5
      have hQ := st_after w.heap.size w5 tb L ⟨#[]⟩ (L.length : Int) HS5.out (by omega)
      unfold ptrV at hQ
      have HQ := Lib.hid hQ
      clear hQ
      go_wp2_with fail
      refine HQ.out.mono ?_
      clear HQ
      rintro e w6 ⟨v6, rfl, hB6, ho6⟩
      have e6 : tk ⟨#[]⟩ (L.length : Int) L = L := by
        have h := tk_afterOf HS5.out.ris HS5.out.good 0 (Nat.zero_le _) (L.length : Int)
        rw [show afterOf L 0 = ⟨#[]⟩ from rfl] at h
        rw [h, List.drop_zero, Int.toNat_natCast, List.take_length]
      rw [e6] at ho6
      obtain ⟨ao6, cap6, rfl⟩ := ownsForm ho6
      have HB6 := Lib.hid (show Below w.heap.size w w6 from HB5.out.trans (hB6.mono HB5.out.size))
      have HS6 := Lib.hid (HS5.out.later hB6)
      have HO6 := Lib.hid ho6
      clear ho6 hB6 HB5 HS5 e6
      obtain ⟨m, hm⟩ : ∃ m, m = L.length := ⟨_, rfl⟩
      rw [← hm] at hL ⊢
      have HM := Lib.hid (fun (_ : Unit) => hm)
      clear hm
      have m0 : (0 : Int) ≤ (m : Int) := by omega
      have m1 : (m : Int) ≤ 101 := by omega
      go_wp2_with fail
      go_loopw [8, 10, 11] (fun af gt i wr => ∃ k j : Nat, k ≤ j ∧ j ≤ m ∧ i = .int .i64 (k : Int) ∧ af = .string (afterOf L j) ∧ ∃ ag cg, gt = .slice ag j cg ∧ Hid (Below w6.heap.size w6 wr ∧ wr.ownsRow w6.heap.size 59 2 (.slice ag j cg) j (flE (L.take j)))) (fun _ _ i _ => m + 1 - (intOf i).toNat)
      case atStart => exact ⟨0, 0, Nat.le_refl _, Nat.zero_le _, rfl, rfl, none, 0, rfl, Lib.hid ⟨Below.refl _ _, World.ownsRow_nil _ _ _ _⟩⟩
      case round =>
        obtain ⟨k2, j, hkj, hjm, rfl, rfl, ag, cg, rfl, HI⟩ := hrel
        have k0 : (0 : Int) ≤ (k2 : Int) := by omega
        have k1 : (k2 : Int) ≤ (m : Int) := by omega
        have hQ := st_after w.heap.size wr tb L (afterOf L j) (1 + q) (HS6.out.later HI.out.1) (by omega)
        unfold ptrV at hQ
        have HQ := Lib.hid hQ
        clear hQ
        go_wp2_with fail
        refine HQ.out.mono ?_
        clear HQ
        rintro e w7 ⟨v7, rfl, hB7, ho7⟩
        rw [tk_afterOf HS6.out.ris HS6.out.good j (by have := HM.out (); omega) (1 + q)] at ho7
        obtain ⟨ao7, cap7, rfl⟩ := ownsForm ho7
        obtain ⟨p, hp⟩ : ∃ p, p = ((L.drop j).take (1 + q).toNat).length := ⟨_, rfl⟩
        have hpl : p = min (1 + q).toNat (m - j) := by
          rw [hp, List.length_take, List.length_drop, ← HM.out ()]
        rw [← hp] at ho7 ⊢
        have HI7 := Lib.hid (show Below w6.heap.size w6 w7 ∧ w7.ownsRow w6.heap.size 59 2 (.slice ag j cg) j (flE (L.take j)) from ⟨HI.out.1.trans (hB7.mono HI.out.1.size), owns_frame HI.out.2 (Frame.of_below [] hB7) (by simp)⟩)
        have HSZ := Lib.hid (show w6.heap.size ≤ wr.heap.size ∧ ∀ b, (Value.slice ag j cg).ownBlock = some b → b < wr.heap.size from ⟨HI.out.1.size, fun b hb => by
          obtain ⟨cur, hc⟩ := owns_lt HI.out.2 hb
          exact lt_of_heap hc⟩)
        have HP := Lib.hid (fun (_ : Unit) => hp)
        clear hB7 HI hp
        by_cases hp0 : p = 0
        · subst hp0
          have hjm' : j = m := by omega
          subst hjm'
          clear hpl
          go_wp2_with fail
          have HGOT := Lib.hid (show w7.ownsRow w6.heap.size 59 2 (.slice ag j cg) L.length (flE L) from by
            have h := HI7.out.2
            rw [HM.out (), List.take_length] at h
            rw [← HM.out ()] at h ⊢
            exact h)
          have HALL := Lib.hid (show w7.ownsRow w5.heap.size 59 2 (.slice ao6 j cap6) L.length (flE L) from by
            rw [HM.out ()]
            exact owns_frame HO6.out (Frame.of_below [] HI7.out.1) (by simp))
          have HS7 := Lib.hid (HS6.out.later HI7.out.1)
          have HB7 := Lib.hid (show Below w.heap.size w w7 from HB6.out.trans (HI7.out.1.mono HB6.out.size))
          clear HI7 HS6 HB6 HO6 HSZ HP hkj hjm k1 k0
          go_loopw [13] (fun i wr => ∃ k : Nat, k ≤ max j 1 ∧ i = .int .i64 ((k : Int)) ∧ 1 ≤ k ∧ Hid (Frame [] w7 wr)) (fun i _ => j - (intOf i).toNat)
          case atStart => exact ⟨1, by omega, rfl, Nat.le_refl _, Lib.hid (Frame.refl _ _)⟩
          case round =>
            obtain ⟨k5, hk5, rfl, hk1, HF⟩ := hrel
            by_cases hlt : k5 < j
            · obtain ⟨x, hx⟩ : ∃ x, L[k5 - 1]? = some x := ⟨_, List.getElem?_eq_getElem (by rw [← HM.out ()]; omega)⟩
              obtain ⟨y, hy⟩ : ∃ y, L[k5]? = some y := ⟨_, List.getElem?_eq_getElem (by rw [← HM.out ()]; omega)⟩
              obtain ⟨ao, cp, he, hr⟩ := ents_of (owns_frame HALL.out HF.out (by simp))
              obtain rfl : ao6 = ao := by
                cases he
                rfl
              clear he cp
              obtain ⟨g, off, rfl, x0, -⟩ := hr (k5 - 1) x hx
              obtain ⟨g', off', e', y0, -⟩ := hr k5 y hy
              cases e'
              have hlk : lessK x.key y.key := by
                obtain ⟨g1, -⟩ := list_at L k5 y hy
                have h := HS7.out.ris
                rw [g1] at h
                refine h.app.2.2 x ?_ y (by simp)
                refine List.mem_of_getElem? (i := k5 - 1) ?_
                rw [List.getElem?_take_of_lt (by omega), hx]
              have hnx := (HS7.out.good x (List.mem_of_getElem? hx)).2
              have hny := (HS7.out.good y (List.mem_of_getElem? hy)).2
              rw [hnx] at x0
              rw [hny] at y0
              obtain ⟨xk, hxk⟩ : ∃ xk, xk = x.key := ⟨_, rfl⟩
              obtain ⟨yk, hyk⟩ : ∃ yk, yk = y.key := ⟨_, rfl⟩
              rw [← hxk] at x0 hlk
              rw [← hyk] at y0 hlk
              have hL : (Op.bytesLess yk.toList xk.toList || yk.toList == xk.toList) = false := by
                have h1 := bl_asymm hlk
                have h2 := bl_ne hlk
                rw [show Op.bytesLess yk.toList xk.toList = false from h1, Bool.false_or]
                simp only [beq_eq_false_iff_ne]
                exact fun e => h2 e.symm
              have hleq : ∀ t, binOp .leq t (.string yk) (.string xk) = pure (.bool false) := fun t => by simp [binOp, Op.stringOp, hL]
              have s0 : (0 : Int) ≤ (k5 : Int) := by omega
              have s1 : (k5 : Int) < (j : Int) := by omega
              have hs1 : IntKind.i64.wrap ((k5 : Int) - 1) = (k5 : Int) - 1 := IntWalk.i64_in _ (by omega)
              have hs5 : (1 : Int) ≤ (k5 : Int) := by omega
              have hs6 : 0 < k5 := by omega
              have hs2 : (0 : Int) ≤ (k5 : Int) - 1 := by omega
              have hs3 : ((k5 : Int) - 1).toNat = k5 - 1 := by omega
              have hs4 : (k5 : Int) - 1 < (j : Int) := by omega
              have HLT := Lib.hid (fun (_ : Unit) => hlt)
              have HF9 := Lib.hid (HF.out.drew)
              clear hr hlk hnx hny hxk hyk hL hx hy hlt
              go_wp2_with fail
              refine wp_region_plan (fun w2 => w2 = wr.drew) 114 [([0, 1, 5, 6, 2, 7, 3, 8, 4, 9, 10, 11], [], false)] (by kernel_rfl) (by kernel_rfl) ?_
              apply wpStages_last
              case hT => rfl
              case hn => exact Nat.le_refl _
              case hq =>
                rintro w2 rfl
                simp only [picked, List.filterMap_cons, List.filterMap_nil, List.getElem?_cons_zero, List.getElem?_cons_succ]
                repeat still_step
                exact wpStill_nil rfl
              simp only [picked, List.filterMap_nil]
              refine wpList_nil (OnlyNormal.mk ?_)
              go_wp2_with fail
              go_roundw
              case rel => exact ⟨k5 + 1, by have := HLT.out (); omega, by go_num, by omega, HF9⟩
              case measure =>
                have := HLT.out ()
                simp [intOf]
                omega
            · have hge : j ≤ k5 := by omega
              have hge' : (j : Int) ≤ (k5 : Int) := by omega
              have HF9 := Lib.hid (show Below w7.heap.size w7 wr from HF.out.below (Nat.le_refl _) (by simp))
              have hQ := st_many w.heap.size wr tb L (HS7.out.later HF9.out) (by have := HM.out (); omega)
              rw [← HM.out ()] at hQ
              unfold ptrV at hQ
              have HQ := Lib.hid hQ
              clear hQ
              go_wp2_with fail
              refine HQ.out.mono ?_
              clear HQ
              rintro e w9 ⟨v9, rfl, rfl, hB9⟩
              have hB79 : Below w7.heap.size w7 w9 := HF9.out.trans (hB9.mono HF9.out.size)
              have HE := Lib.hid (sameEntries_any _ _ L w9 (ents_of (owns_frame HGOT.out (Frame.of_below [] hB79) (by simp))) (ents_of (owns_frame HALL.out (Frame.of_below [] hB79) (by simp))) (by have := HM.out (); omega))
              have HB9 := Lib.hid (show Below w.heap.size w w9 from HB7.out.trans (hB79.mono HB7.out.size))
              clear hB9 hB79
              go_wp2_with fail
              refine HE.out.mono ?_
              rintro e w10 ⟨rfl, hB10⟩
              have HB10 := Lib.hid (show Below w.heap.size w w10 from HB9.out.trans (hB10.mono HB9.out.size))
              clear hB10
              go_wp2_with fail
              go_ret
              exact Ret.of rfl HB10.out
        · obtain ⟨p1, rfl⟩ : ∃ p1, p = p1 + 1 := ⟨p - 1, by omega⟩
          obtain ⟨g7, cap7', cur7, hv7, hg7, -⟩ := owns_open ho7 (by omega)
          cases hv7
          have HO7 := Lib.hid (And.intro ho7 hg7)
          have p0 : (0 : Int) ≤ (p1 : Int) := by omega
          have p2 : (p1 : Int) ≤ 101 := by omega
          have hp3 : j + (p1 + 1) ≤ m := by omega
          have HPL := Lib.hid (fun (_ : Unit) => hpl)
          clear ho7 hg7 hpl hp0
          go_wp2_with (at_builtin; refine stopHere ?_)
          intro _
          refine wpList_append_any rfl (.tmp 76) (.tmp 77) 60 rfl w6.heap.size 59 i59 _ 2 24 Try.underlying60 gi gz0 gz1 gz2 rfl (by decide) _ j (flE (L.take j)) rfl HI7.out.2 (some ⟨g7, 0, none⟩) (p1 + 1) cap7 (flE ((L.drop j).take (1 + q).toNat)) rfl (by rw [flE_len, ← HP.out ()]) ?_ (flE_one _) (j + (p1 + 1)) rfl (by unfold maxLen; omega) (by omega) HI7.out.1.size ?_
          · exact fun _ => ⟨_, rfl, World.ownsRow.cells HO7.out.1 rfl⟩
          intro v8 w8 ho8 hg8 _
          obtain ⟨ao8, cap8, rfl⟩ := ownsForm ho8
          have hg8' : w7.grownBy w8 (Value.slice ag j cg).ownBlock := hg8
          have hF8 : Frame (Value.slice ag j cg).ownBlock.toList w7 w8 := (Frame.refl _ w7).grown hg8' (fun k hk => .inl (by rw [hk]; simp))
          have hB8 : Below w6.heap.size w7 w8 := hF8.below HI7.out.1.size (fun k hk => (World.ownsRow.lt HI7.out.2 k (by simpa using hk)).1)
          rw [← flE_append] at ho8
          have htk : L.take j ++ (L.drop j).take (1 + q).toNat = L.take (j + (p1 + 1)) := by
            have h := HPL.out ()
            rw [← List.take_add]
            by_cases h2 : (1 + q).toNat ≤ m - j
            · rw [show (1 + q).toNat = p1 + 1 by omega]
            · rw [List.take_of_length_le (by rw [← HM.out ()]; omega), List.take_of_length_le (by rw [← HM.out ()]; omega)]
          rw [htk] at ho8
          have HR := Lib.hid (show Below w6.heap.size w6 w8 ∧ w8.ownsRow w6.heap.size 59 2 (.slice ao8 (j + (p1 + 1)) cap8) (j + (p1 + 1)) (flE (L.take (j + (p1 + 1)))) from ⟨HI7.out.1.trans hB8, ho8⟩)
          have ho9 := owns_frame HO7.out.1 hF8 (fun k hk hm => by
            have h1 := HSZ.out.2 k (by simpa using hm)
            obtain rfl : g7 = k := Option.some.inj hk
            have := HO7.out.2
            omega)
          obtain ⟨x, hx⟩ : ∃ x, L[j + p1]? = some x := ⟨_, List.getElem?_eq_getElem (by rw [← HM.out ()]; omega)⟩
          have hx2 : ((L.drop j).take (1 + q).toNat)[p1]? = some x := by
            have h := HP.out ()
            have h3 := HPL.out ()
            rw [List.getElem?_take_of_lt (by omega), List.getElem?_drop, hx]
          have c9 := owns_cell ho9 (j := p1 * 2) (by omega)
          rw [show p1 * 2 = p1 * 2 + 0 by omega, flE_get _ _ _ _ (by decide) hx2] at c9
          simp only [Itm.ent, List.getElem?_cons_zero, Nat.add_zero] at c9
          have haft : afterOf L (j + (p1 + 1)) = x.name := by
            rw [afterOf, if_neg (by omega), show j + (p1 + 1) - 1 = j + p1 by omega, hx]
            rfl
          have HAF := Lib.hid (fun (_ : Unit) => haft)
          obtain ⟨nm, hnm⟩ : ∃ nm, nm = x.name := ⟨_, rfl⟩
          rw [← hnm] at c9 HAF
          clear haft hx hx2 ho9 htk hB8 hF8 ho8 hg8 hg8' hnm
          have q1 : ((p1 + 1 : Nat) : Int) = (p1 : Int) + 1 := by omega
          go_wp2_with fail
          go_roundw
          case rel => exact ⟨k2 + 1, j + (p1 + 1), by omega, hp3, by go_num, by rw [HAF.out ()], ao8, cap8, rfl, HR⟩
          case measure => simp [intOf]; omega

end Go.Proofs.Ytkapmpngglibjaa
