/- A walk over a tree, entries counted. Conditions: the contract's own premises. -/
import Derived.Test.YtkapmpngglibjaaTreI
namespace Go.Proofs.Ytkapmpngglibjaa
open Go Go.RowKit

set_option maxHeartbeats 8000000 in
set_option maxRecDepth 100000 in
theorem walkM (cb : Nat) (B : Nat) (J : List Itm → World → Prop) (stop : List Itm → Prop) (hE : EachOK 75 #[.pointer (some ⟨cb, 0, none⟩)] B J stop) (key : ByteArray) : ∀ (h nb : Nat) (L : List Itm) (X : List Nat) (w : World) (o : List Itm), NodeAt h w nb L X → RisI L → (∀ k ∈ X, k < B) → B ≤ w.heap.size → J o w →
    Calls Try.prog 73 #[.pointer (some ⟨nb, 0, none⟩), .string key, .func (.func 75) #[] #[.pointer (some ⟨cb, 0, none⟩)]] w (RetV (WalkRes B J stop key L o w))
  | 0, _, _, _, _, _, hn, _, _, _, _ => hn.elim
  | h + 1, nb, L, X, w, o, ⟨lv, dv, l, ks, hn⟩, hr, hX, hB, hJ => by
    have HIH := Lib.hid (walkM cb B J stop hE key h)
    have HE := Lib.hid hE
    have HN := Lib.hid hn
    have HR := Lib.hid (And.intro hr (And.intro (hn.ris hr) (And.intro hX (And.intro hB hJ))))
    obtain ⟨aol, capl, rfl, -⟩ := hn.lr.form
    obtain ⟨aod, capd, rfl, -⟩ := hn.dr.form
    have hfd := find_any nb _ _ l key w hn.b hn.lr.items (by have := hn.l3; omega) (hn.ris hr)
    unfold ptrV at hfd
    have HFD := Lib.hid hfd
    have hl3 := hn.l3
    have hfle := fromI_le l key
    have hlle := lowI_le l key
    clear hfd hn hr hX hB hJ hE
    go_enter Try.func73, Try.ntmps73
    go_wp2_with fail
    refine HFD.out.mono ?_
    clear HFD
    rintro _ w1 ⟨rfl, hB1⟩
    have HN1 := Lib.hid (HN.out.frame (P' := fun p q r => NodeAt h w1 p q r) (Frame.of_below [] hB1) (by simp) (fun k hk hp => NodeAt.frame (Frame.of_below [] hB1) h _ _ _ hp (by simp)))
    have HB1 := Lib.hid (show Below B w w1 ∧ B ≤ w1.heap.size ∧ J o w1 from ⟨hB1.mono HR.out.2.2.2.1, Nat.le_trans HR.out.2.2.2.1 hB1.size, HE.out.1 _ _ _ HR.out.2.2.2.2 hB1⟩)
    clear hB1
    obtain ⟨fi, hfi⟩ : ∃ fi, fi = fromI l key := ⟨_, rfl⟩
    have HFI := Lib.hid (fun (_ : Unit) => hfi)
    rw [← hfi] at hfle
    clear hfi
    cases hhas : hasI l key
    · have hf0 : fi = lowI l key := by rw [HFI.out (), fromI, hhas]; rfl
      have HHAS := Lib.hid (fun (_ : Unit) => hhas)
      rw [← hf0] at *
      clear hf0 hhas
      have hlf := leaf_any nb (.slice aol l.length capl) aod ks.length capd w1 HN1.out.b
      unfold ptrV at hlf
      have HLF := Lib.hid hlf
      clear hlf
      go_wp2_with fail
      refine HLF.out.mono ?_
      clear HLF
      rintro _ w2 ⟨rfl, rfl⟩
      by_cases hk0 : ks = []
      · subst hk0
        simp only [List.length_nil, decide_true]
        have HG0 := Lib.hid (show ([] : List Itm) ++ restW l [] fi = gtr key L from by
          rcases HN.out.shape with ⟨-, h1⟩ | ⟨h1, -⟩
          · rw [List.nil_append, h1, HFI.out ()]
            exact (leaf_gtr HR.out.2.1).symm
          · simp at h1)
        go_wp2_with fail
        go_loopw [9] (fun kk wr => ∃ (k : Nat) (told : List Itm), fi ≤ k ∧ k ≤ l.length ∧ kk = .int .i64 (k : Int) ∧ Hid (Below B w wr ∧ J (o ++ told) wr ∧ told ++ restW l [] k = gtr key L)) (fun kk _ => l.length - (intOf kk).toNat)
        case atStart => exact ⟨fi, _, Nat.le_refl _, hfle, rfl, Lib.hid ⟨HB1.out.1, by rw [List.append_nil]; exact HB1.out.2.2, HG0.out⟩⟩
        case round =>
          obtain ⟨k, told, hk1, hk2, rfl, HL⟩ := hrel
          have k0 : (0 : Int) ≤ (k : Int) := by omega
          have hfrm := frame_from HL.out.1
          have hnX : ∀ j ∈ X, j ∉ List.range' B (w.heap.size - B) := fun j hj hm => by have := HR.out.2.2.1 j hj; have := (List.mem_range'_1.1 hm).1; omega
          have HNr := Lib.hid (HN.out.frame (P' := fun p q r => NodeAt h wr p q r) hfrm hnX (fun kd hkd hp => NodeAt.frame hfrm h _ _ _ hp (fun j hj => hnX j (HN.out.own.2.2.2 kd hkd j hj))))
          clear hfrm hnX
          have n0 := cell_of HNr.out.b 0
          simp only [List.getElem?_toArray, List.getElem?_cons_zero] at n0
          have hBr : B ≤ wr.heap.size := Nat.le_trans HR.out.2.2.2.1 HL.out.1.size
          by_cases hlt : k < l.length
          · have hlt' : (k : Int) < (l.length : Int) := by omega
            obtain ⟨⟨xk, xn, xd⟩, hx⟩ : ∃ x, l[k]? = some x := ⟨_, List.getElem?_eq_getElem hlt⟩
            obtain ⟨ao', cap', he', hit⟩ := HNr.out.lr.items
            cases he'
            obtain ⟨g, off, rfl, i0, i1, i2⟩ := hit k _ hx
            have heach := HE.out.2 (o ++ told) ⟨xk, xn, xd⟩ wr hBr HL.out.2.1
            have HEA := Lib.hid heach
            have HXX := Lib.hid (fun (_ : Unit) => And.intro hx hBr)
            simp only at i0 i1 i2
            clear heach hx hit hBr
            go_wp2_with fail
            refine (show Calls Try.prog 75 #[.agg #[.string xk, .string xn, .int .i64 xd], .pointer (some ⟨cb, 0, none⟩)] wr _ from HEA.out).mono ?_
            clear HEA i0 i1 i2 n0
            rintro _ w5 ⟨v5, rfl, hB5, hv5⟩
            have HB5 := Lib.hid (show Below B w w5 ∧ B ≤ w5.heap.size from ⟨HL.out.1.trans hB5, Nat.le_trans (HXX.out ()).2 hB5.size⟩)
            clear hB5
            rcases hv5 with ⟨rfl, hJ5⟩ | ⟨rfl, hJ5, hst⟩
            · have hfrm := frame_from HB5.out.1
              have hnX : ∀ j ∈ X, j ∉ List.range' B (w.heap.size - B) := fun j hj hm => by have := HR.out.2.2.1 j hj; have := (List.mem_range'_1.1 hm).1; omega
              have HN5 := Lib.hid (HN.out.frame (P' := fun p q r => NodeAt h w5 p q r) hfrm hnX (fun kd hkd hp => NodeAt.frame hfrm h _ _ _ hp (fun j hj => hnX j (HN.out.own.2.2.2 kd hkd j hj))))
              have hlf := leaf_any nb _ aod 0 capd w5 HN5.out.b
              unfold ptrV at hlf
              have HLF := Lib.hid hlf
              have HJ5 := Lib.hid hJ5
              have hw2 : IntKind.i64.wrap ((k : Int) + 1) = (k : Int) + 1 := IntWalk.i64_in _ (by omega)
              clear hfrm hnX hlf hJ5
              go_wp2_with fail
              refine HLF.out.mono ?_
              clear HLF
              rintro _ w6 ⟨rfl, rfl⟩
              simp only [decide_true]
              have HL2 := Lib.hid (show Below B w w5 ∧ J (o ++ (told ++ [⟨xk, xn, xd⟩])) w5 ∧ (told ++ [⟨xk, xn, xd⟩]) ++ restW l [] (k + 1) = gtr key L from
                ⟨HB5.out.1, by rw [← List.append_assoc]; exact HJ5.out, by
                  rw [← HL.out.2.2, restW_leaf l k _ (HXX.out ()).1]
                  simp⟩)
              go_wp2_with fail
              exact ⟨⟨k + 1, _, by omega, by omega, by go_num, HL2⟩, by simp [intOf]; omega⟩
            · have HX := Lib.hid (show WalkRes B J stop key L o w (.bool false) w5 from ⟨HB5.out.1, .inr ⟨rfl, told, restW l [] k, HL.out.2.2.symm, hJ5, hst⟩⟩)
              clear hJ5 hst
              go_wp2_with fail
              go_ret
              exact RetV.of HX.out
          · obtain rfl : k = l.length := by omega
            have HX := Lib.hid (show WalkRes B J stop key L o w (.bool true) wr from ⟨HL.out.1, .inl ⟨rfl, by
              have h1 := HL.out.2.2
              rw [restW_end _ _ _ (Nat.le_refl _), List.append_nil] at h1
              rw [← h1]
              exact HL.out.2.1⟩⟩)
            clear hlt hBr
            go_wp2_with fail
            go_ret
            exact RetV.of HX.out
      · have hk1 : ¬ ks.length = 0 := fun e => hk0 (List.eq_nil_of_length_eq_zero e)
        simp only [decide_eq_false hk1]
        have hks : ks.length = l.length + 1 ∧ L = weave (ks.map (·.2.1)) l := by
          rcases HN.out.shape with ⟨h1, -⟩ | h1
          · exact absurd h1 hk0
          · exact h1
        obtain ⟨kd, hkd⟩ : ∃ kd, ks[fi]? = some kd := ⟨_, List.getElem?_eq_getElem (by omega)⟩
        have hkm := List.mem_of_getElem? hkd
        obtain ⟨gd, cd, curd, he, hcd, hgd, hcurd⟩ := HN1.out.dr.cells (by rw [List.length_map]; omega)
        cases he
        have hpx : curd[fi]? = some (.pointer (some ⟨kd.1, 0, none⟩)) := hcurd fi _ (by rw [List.getElem?_map, hkd]; rfl)
        have d1 := cell_of hgd fi
        rw [hpx] at d1
        have n1 := cell_of HN1.out.b 1
        simp only [List.getElem?_toArray, List.getElem?_cons_zero, List.getElem?_cons_succ] at n1
        have hgt := inner_gtr (k := key) hks.1 (by rw [← hks.2]; exact HR.out.1) (by rw [← HFI.out ()]; exact hkd)
        rw [← hks.2, ← HFI.out ()] at hgt
        have hwk := HIH.out kd.1 kd.2.1 kd.2.2 w1 o (HN1.out.kids kd hkm) hgt.2.2 (fun j hj => HR.out.2.2.1 j (HN.out.own.2.2.2 kd hkm j hj)) HB1.out.2.1 HB1.out.2.2
        have HWK := Lib.hid hwk
        have HKS := Lib.hid (fun (_ : Unit) => And.intro hks (And.intro hk0 hgt))
        have hfk : (fi : Int) < (ks.length : Int) := by omega
        clear hk0 hk1 hks hkd hkm hgd hcurd hpx hgt hwk hcd
        go_wp2_with fail
        refine HWK.out.mono ?_
        clear HWK
        rintro _ w3 ⟨v3, rfl, hB3, hv3⟩
        have HB3 := Lib.hid (show Below B w w3 ∧ B ≤ w3.heap.size from ⟨HB1.out.1.trans hB3, Nat.le_trans HB1.out.2.1 hB3.size⟩)
        clear hB3 d1 n1
        rcases hv3 with ⟨rfl, hJ3⟩ | ⟨rfl, P, S, hPS, hJ3, hst⟩
        · have HG0 := Lib.hid (show gtr key kd.2.1 ++ restW l ks fi = gtr key L from (HKS.out ()).2.2.1.symm)
          have HJ3 := Lib.hid hJ3
          clear hJ3
          go_wp2_with fail
          go_loopw [9] (fun kk wr => ∃ (k : Nat) (told : List Itm), fi ≤ k ∧ k ≤ l.length ∧ kk = .int .i64 (k : Int) ∧ Hid (Below B w wr ∧ J (o ++ told) wr ∧ told ++ restW l ks k = gtr key L)) (fun kk _ => l.length - (intOf kk).toNat)
          case atStart => exact ⟨fi, _, Nat.le_refl _, hfle, rfl, Lib.hid ⟨HB3.out.1, HJ3.out, HG0.out⟩⟩
          case round =>
            obtain ⟨k, told, hk1, hk2, rfl, HL⟩ := hrel
            have k0 : (0 : Int) ≤ (k : Int) := by omega
            have hfrm := frame_from HL.out.1
            have hnX : ∀ j ∈ X, j ∉ List.range' B (w.heap.size - B) := fun j hj hm => by have := HR.out.2.2.1 j hj; have := (List.mem_range'_1.1 hm).1; omega
            have HNr := Lib.hid (HN.out.frame (P' := fun p q r => NodeAt h wr p q r) hfrm hnX (fun kd hkd hp => NodeAt.frame hfrm h _ _ _ hp (fun j hj => hnX j (HN.out.own.2.2.2 kd hkd j hj))))
            clear hfrm hnX
            have n0 := cell_of HNr.out.b 0
            simp only [List.getElem?_toArray, List.getElem?_cons_zero] at n0
            have hBr : B ≤ wr.heap.size := Nat.le_trans HR.out.2.2.2.1 HL.out.1.size
            by_cases hlt : k < l.length
            · have hlt' : (k : Int) < (l.length : Int) := by omega
              obtain ⟨⟨xk, xn, xd⟩, hx⟩ : ∃ x, l[k]? = some x := ⟨_, List.getElem?_eq_getElem hlt⟩
              obtain ⟨ao', cap', he', hit⟩ := HNr.out.lr.items
              cases he'
              obtain ⟨g, off, rfl, i0, i1, i2⟩ := hit k _ hx
              have heach := HE.out.2 (o ++ told) ⟨xk, xn, xd⟩ wr hBr HL.out.2.1
              have HEA := Lib.hid heach
              have HXX := Lib.hid (fun (_ : Unit) => And.intro hx hBr)
              simp only at i0 i1 i2
              clear heach hx hit hBr
              go_wp2_with fail
              refine (show Calls Try.prog 75 #[.agg #[.string xk, .string xn, .int .i64 xd], .pointer (some ⟨cb, 0, none⟩)] wr _ from HEA.out).mono ?_
              clear HEA i0 i1 i2 n0
              rintro _ w5 ⟨v5, rfl, hB5, hv5⟩
              have HB5 := Lib.hid (show Below B w w5 ∧ B ≤ w5.heap.size from ⟨HL.out.1.trans hB5, Nat.le_trans (HXX.out ()).2 hB5.size⟩)
              clear hB5
              rcases hv5 with ⟨rfl, hJ5⟩ | ⟨rfl, hJ5, hst⟩
              · have hfrm := frame_from HB5.out.1
                have hnX : ∀ j ∈ X, j ∉ List.range' B (w.heap.size - B) := fun j hj hm => by have := HR.out.2.2.1 j hj; have := (List.mem_range'_1.1 hm).1; omega
                have HN5 := Lib.hid (HN.out.frame (P' := fun p q r => NodeAt h w5 p q r) hfrm hnX (fun kd hkd hp => NodeAt.frame hfrm h _ _ _ hp (fun j hj => hnX j (HN.out.own.2.2.2 kd hkd j hj))))
                have hlf := leaf_any nb _ (some ⟨gd, 0, none⟩) ks.length capd w5 HN5.out.b
                unfold ptrV at hlf
                have HLF := Lib.hid hlf
                have HJ5 := Lib.hid hJ5
                have hw2 : IntKind.i64.wrap ((k : Int) + 1) = (k : Int) + 1 := IntWalk.i64_in _ (by omega)
                clear hfrm hnX hlf hJ5
                go_wp2_with fail
                refine HLF.out.mono ?_
                clear HLF
                rintro _ w6 ⟨rfl, rfl⟩
                have hkl : ¬ ks.length = 0 := by have := (HKS.out ()).1.1; omega
                simp only [decide_eq_false hkl]
                obtain ⟨kd2, hkd2⟩ : ∃ kd, ks[k + 1]? = some kd := ⟨_, List.getElem?_eq_getElem (by have := (HKS.out ()).1.1; omega)⟩
                have hkm := List.mem_of_getElem? hkd2
                obtain ⟨gd2, cd2, curd2, he2, hcd2, hgd2, hcurd2⟩ := HN5.out.dr.cells (by rw [List.length_map]; omega)
                cases he2
                have hpx : curd2[k + 1]? = some (.pointer (some ⟨kd2.1, 0, none⟩)) := hcurd2 (k + 1) _ (by rw [List.getElem?_map, hkd2]; rfl)
                have d1 := cell_of hgd2 (k + 1)
                rw [hpx] at d1
                have n1 := cell_of HN5.out.b 1
                simp only [List.getElem?_toArray, List.getElem?_cons_zero, List.getElem?_cons_succ] at n1
                have hrw := restW_inner l ks k _ kd2 (HKS.out ()).2.1 (HXX.out ()).1 hkd2
                have hg := HL.out.2.2
                rw [hrw] at hg
                have hgr : RisI (gtr key L) := HR.out.1.sub List.filter_sublist
                rw [← hg] at hgr
                have hkr : RisI kd2.2.1 := hgr.app.2.1.cons.1.app.1
                have hkg : gtr key kd2.2.1 = kd2.2.1 := gtr_all fun x hx => by
                  have h1 : x ∈ gtr key L := by rw [← hg]; simp [hx]
                  exact (List.mem_filter.1 h1).2
                have hwk := HIH.out kd2.1 kd2.2.1 kd2.2.2 w5 (o ++ told ++ [⟨xk, xn, xd⟩]) (HN5.out.kids kd2 hkm) hkr (fun j hj => HR.out.2.2.1 j (HN.out.own.2.2.2 kd2 hkm j hj)) HB5.out.2 HJ5.out
                have HWK := Lib.hid hwk
                have HG2 := Lib.hid (fun (_ : Unit) => And.intro hg hkg)
                have hk4 : (k : Int) + 1 < (ks.length : Int) := by have := (HKS.out ()).1.1; omega
                clear hkl hkd2 hkm hgd2 hcurd2 hpx hcd2 hrw hg hgr hkr hkg hwk
                go_wp2_with fail
                refine HWK.out.mono ?_
                clear HWK
                rintro _ w7 ⟨v7, rfl, hB7, hv7⟩
                clear d1 n1
                rcases hv7 with ⟨rfl, hJ7⟩ | ⟨rfl, P7, S7, hPS7, hJ7, hst7⟩
                · have HL2 := Lib.hid (show Below B w w7 ∧ J (o ++ (told ++ [⟨xk, xn, xd⟩] ++ kd2.2.1)) w7 ∧ (told ++ [⟨xk, xn, xd⟩] ++ kd2.2.1) ++ restW l ks (k + 1) = gtr key L from
                    ⟨HB5.out.1.trans hB7, by
                      rw [(HG2.out ()).2] at hJ7
                      simpa using hJ7, by
                      rw [← (HG2.out ()).1]
                      simp⟩)
                  clear hB7 hJ7
                  go_wp2_with fail
                  exact ⟨⟨k + 1, _, by omega, by omega, by go_num, HL2⟩, by simp [intOf]; omega⟩
                · have HX := Lib.hid (show WalkRes B J stop key L o w (.bool false) w7 from ⟨HB5.out.1.trans hB7, .inr ⟨rfl, told ++ [⟨xk, xn, xd⟩] ++ P7, S7 ++ restW l ks (k + 1), by
                    rw [← (HG2.out ()).1]
                    have := (HG2.out ()).2.symm.trans hPS7
                    rw [this]
                    simp, by simpa using hJ7, by simpa using hst7⟩⟩)
                  clear hB7 hPS7 hJ7 hst7
                  go_wp2_with fail
                  go_ret
                  exact RetV.of HX.out
              · have HX := Lib.hid (show WalkRes B J stop key L o w (.bool false) w5 from ⟨HB5.out.1, .inr ⟨rfl, told, restW l ks k, HL.out.2.2.symm, hJ5, hst⟩⟩)
                clear hJ5 hst
                go_wp2_with fail
                go_ret
                exact RetV.of HX.out
            · obtain rfl : k = l.length := by omega
              have HX := Lib.hid (show WalkRes B J stop key L o w (.bool true) wr from ⟨HL.out.1, .inl ⟨rfl, by
                have h1 := HL.out.2.2
                rw [restW_end _ _ _ (Nat.le_refl _), List.append_nil] at h1
                rw [← h1]
                exact HL.out.2.1⟩⟩)
              clear hlt hBr
              go_wp2_with fail
              go_ret
              exact RetV.of HX.out
        · have HX := Lib.hid (show WalkRes B J stop key L o w (.bool false) w3 from ⟨HB3.out.1, .inr ⟨rfl, P, S ++ restW l ks fi, by rw [(HKS.out ()).2.2.1, hPS, List.append_assoc], hJ3, hst⟩⟩)
          clear hPS hJ3 hst
          go_wp2_with fail
          go_ret
          exact RetV.of HX.out
    · have hf0 : fi = lowI l key + 1 := by rw [HFI.out (), fromI, hhas]; rfl
      have HHAS := Lib.hid (fun (_ : Unit) => hhas)
      have hw1 : IntKind.i64.wrap ((lowI l key : Int) + 1) = (fi : Int) := by
        rw [show (lowI l key : Int) + 1 = (fi : Int) by omega]
        exact IntWalk.i64_in _ (by omega)
      clear hf0 hhas
      have hlf := leaf_any nb (.slice aol l.length capl) aod ks.length capd w1 HN1.out.b
      unfold ptrV at hlf
      have HLF := Lib.hid hlf
      clear hlf
      go_wp2_with fail
      refine HLF.out.mono ?_
      clear HLF
      rintro _ w2 ⟨rfl, rfl⟩
      by_cases hk0 : ks = []
      · subst hk0
        simp only [List.length_nil, decide_true]
        have HG0 := Lib.hid (show ([] : List Itm) ++ restW l [] fi = gtr key L from by
          rcases HN.out.shape with ⟨-, h1⟩ | ⟨h1, -⟩
          · rw [List.nil_append, h1, HFI.out ()]
            exact (leaf_gtr HR.out.2.1).symm
          · simp at h1)
        go_wp2_with fail
        go_loopw [9] (fun kk wr => ∃ (k : Nat) (told : List Itm), fi ≤ k ∧ k ≤ l.length ∧ kk = .int .i64 (k : Int) ∧ Hid (Below B w wr ∧ J (o ++ told) wr ∧ told ++ restW l [] k = gtr key L)) (fun kk _ => l.length - (intOf kk).toNat)
        case atStart => exact ⟨fi, _, Nat.le_refl _, hfle, rfl, Lib.hid ⟨HB1.out.1, by rw [List.append_nil]; exact HB1.out.2.2, HG0.out⟩⟩
        case round =>
          obtain ⟨k, told, hk1, hk2, rfl, HL⟩ := hrel
          have k0 : (0 : Int) ≤ (k : Int) := by omega
          have hfrm := frame_from HL.out.1
          have hnX : ∀ j ∈ X, j ∉ List.range' B (w.heap.size - B) := fun j hj hm => by have := HR.out.2.2.1 j hj; have := (List.mem_range'_1.1 hm).1; omega
          have HNr := Lib.hid (HN.out.frame (P' := fun p q r => NodeAt h wr p q r) hfrm hnX (fun kd hkd hp => NodeAt.frame hfrm h _ _ _ hp (fun j hj => hnX j (HN.out.own.2.2.2 kd hkd j hj))))
          clear hfrm hnX
          have n0 := cell_of HNr.out.b 0
          simp only [List.getElem?_toArray, List.getElem?_cons_zero] at n0
          have hBr : B ≤ wr.heap.size := Nat.le_trans HR.out.2.2.2.1 HL.out.1.size
          by_cases hlt : k < l.length
          · have hlt' : (k : Int) < (l.length : Int) := by omega
            obtain ⟨⟨xk, xn, xd⟩, hx⟩ : ∃ x, l[k]? = some x := ⟨_, List.getElem?_eq_getElem hlt⟩
            obtain ⟨ao', cap', he', hit⟩ := HNr.out.lr.items
            cases he'
            obtain ⟨g, off, rfl, i0, i1, i2⟩ := hit k _ hx
            have heach := HE.out.2 (o ++ told) ⟨xk, xn, xd⟩ wr hBr HL.out.2.1
            have HEA := Lib.hid heach
            have HXX := Lib.hid (fun (_ : Unit) => And.intro hx hBr)
            simp only at i0 i1 i2
            clear heach hx hit hBr
            go_wp2_with fail
            refine (show Calls Try.prog 75 #[.agg #[.string xk, .string xn, .int .i64 xd], .pointer (some ⟨cb, 0, none⟩)] wr _ from HEA.out).mono ?_
            clear HEA i0 i1 i2 n0
            rintro _ w5 ⟨v5, rfl, hB5, hv5⟩
            have HB5 := Lib.hid (show Below B w w5 ∧ B ≤ w5.heap.size from ⟨HL.out.1.trans hB5, Nat.le_trans (HXX.out ()).2 hB5.size⟩)
            clear hB5
            rcases hv5 with ⟨rfl, hJ5⟩ | ⟨rfl, hJ5, hst⟩
            · have hfrm := frame_from HB5.out.1
              have hnX : ∀ j ∈ X, j ∉ List.range' B (w.heap.size - B) := fun j hj hm => by have := HR.out.2.2.1 j hj; have := (List.mem_range'_1.1 hm).1; omega
              have HN5 := Lib.hid (HN.out.frame (P' := fun p q r => NodeAt h w5 p q r) hfrm hnX (fun kd hkd hp => NodeAt.frame hfrm h _ _ _ hp (fun j hj => hnX j (HN.out.own.2.2.2 kd hkd j hj))))
              have hlf := leaf_any nb _ aod 0 capd w5 HN5.out.b
              unfold ptrV at hlf
              have HLF := Lib.hid hlf
              have HJ5 := Lib.hid hJ5
              have hw2 : IntKind.i64.wrap ((k : Int) + 1) = (k : Int) + 1 := IntWalk.i64_in _ (by omega)
              clear hfrm hnX hlf hJ5
              go_wp2_with fail
              refine HLF.out.mono ?_
              clear HLF
              rintro _ w6 ⟨rfl, rfl⟩
              simp only [decide_true]
              have HL2 := Lib.hid (show Below B w w5 ∧ J (o ++ (told ++ [⟨xk, xn, xd⟩])) w5 ∧ (told ++ [⟨xk, xn, xd⟩]) ++ restW l [] (k + 1) = gtr key L from
                ⟨HB5.out.1, by rw [← List.append_assoc]; exact HJ5.out, by
                  rw [← HL.out.2.2, restW_leaf l k _ (HXX.out ()).1]
                  simp⟩)
              go_wp2_with fail
              exact ⟨⟨k + 1, _, by omega, by omega, by go_num, HL2⟩, by simp [intOf]; omega⟩
            · have HX := Lib.hid (show WalkRes B J stop key L o w (.bool false) w5 from ⟨HB5.out.1, .inr ⟨rfl, told, restW l [] k, HL.out.2.2.symm, hJ5, hst⟩⟩)
              clear hJ5 hst
              go_wp2_with fail
              go_ret
              exact RetV.of HX.out
          · obtain rfl : k = l.length := by omega
            have HX := Lib.hid (show WalkRes B J stop key L o w (.bool true) wr from ⟨HL.out.1, .inl ⟨rfl, by
              have h1 := HL.out.2.2
              rw [restW_end _ _ _ (Nat.le_refl _), List.append_nil] at h1
              rw [← h1]
              exact HL.out.2.1⟩⟩)
            clear hlt hBr
            go_wp2_with fail
            go_ret
            exact RetV.of HX.out
      · have hk1 : ¬ ks.length = 0 := fun e => hk0 (List.eq_nil_of_length_eq_zero e)
        simp only [decide_eq_false hk1]
        have hks : ks.length = l.length + 1 ∧ L = weave (ks.map (·.2.1)) l := by
          rcases HN.out.shape with ⟨h1, -⟩ | h1
          · exact absurd h1 hk0
          · exact h1
        obtain ⟨kd, hkd⟩ : ∃ kd, ks[fi]? = some kd := ⟨_, List.getElem?_eq_getElem (by omega)⟩
        have hkm := List.mem_of_getElem? hkd
        obtain ⟨gd, cd, curd, he, hcd, hgd, hcurd⟩ := HN1.out.dr.cells (by rw [List.length_map]; omega)
        cases he
        have hpx : curd[fi]? = some (.pointer (some ⟨kd.1, 0, none⟩)) := hcurd fi _ (by rw [List.getElem?_map, hkd]; rfl)
        have d1 := cell_of hgd fi
        rw [hpx] at d1
        have n1 := cell_of HN1.out.b 1
        simp only [List.getElem?_toArray, List.getElem?_cons_zero, List.getElem?_cons_succ] at n1
        have hgt := inner_gtr (k := key) hks.1 (by rw [← hks.2]; exact HR.out.1) (by rw [← HFI.out ()]; exact hkd)
        rw [← hks.2, ← HFI.out ()] at hgt
        have hwk := HIH.out kd.1 kd.2.1 kd.2.2 w1 o (HN1.out.kids kd hkm) hgt.2.2 (fun j hj => HR.out.2.2.1 j (HN.out.own.2.2.2 kd hkm j hj)) HB1.out.2.1 HB1.out.2.2
        have HWK := Lib.hid hwk
        have HKS := Lib.hid (fun (_ : Unit) => And.intro hks (And.intro hk0 hgt))
        have hfk : (fi : Int) < (ks.length : Int) := by omega
        clear hk0 hk1 hks hkd hkm hgd hcurd hpx hgt hwk hcd
        go_wp2_with fail
        refine HWK.out.mono ?_
        clear HWK
        rintro _ w3 ⟨v3, rfl, hB3, hv3⟩
        have HB3 := Lib.hid (show Below B w w3 ∧ B ≤ w3.heap.size from ⟨HB1.out.1.trans hB3, Nat.le_trans HB1.out.2.1 hB3.size⟩)
        clear hB3 d1 n1
        rcases hv3 with ⟨rfl, hJ3⟩ | ⟨rfl, P, S, hPS, hJ3, hst⟩
        · have HG0 := Lib.hid (show gtr key kd.2.1 ++ restW l ks fi = gtr key L from (HKS.out ()).2.2.1.symm)
          have HJ3 := Lib.hid hJ3
          clear hJ3
          go_wp2_with fail
          go_loopw [9] (fun kk wr => ∃ (k : Nat) (told : List Itm), fi ≤ k ∧ k ≤ l.length ∧ kk = .int .i64 (k : Int) ∧ Hid (Below B w wr ∧ J (o ++ told) wr ∧ told ++ restW l ks k = gtr key L)) (fun kk _ => l.length - (intOf kk).toNat)
          case atStart => exact ⟨fi, _, Nat.le_refl _, hfle, rfl, Lib.hid ⟨HB3.out.1, HJ3.out, HG0.out⟩⟩
          case round =>
            obtain ⟨k, told, hk1, hk2, rfl, HL⟩ := hrel
            have k0 : (0 : Int) ≤ (k : Int) := by omega
            have hfrm := frame_from HL.out.1
            have hnX : ∀ j ∈ X, j ∉ List.range' B (w.heap.size - B) := fun j hj hm => by have := HR.out.2.2.1 j hj; have := (List.mem_range'_1.1 hm).1; omega
            have HNr := Lib.hid (HN.out.frame (P' := fun p q r => NodeAt h wr p q r) hfrm hnX (fun kd hkd hp => NodeAt.frame hfrm h _ _ _ hp (fun j hj => hnX j (HN.out.own.2.2.2 kd hkd j hj))))
            clear hfrm hnX
            have n0 := cell_of HNr.out.b 0
            simp only [List.getElem?_toArray, List.getElem?_cons_zero] at n0
            have hBr : B ≤ wr.heap.size := Nat.le_trans HR.out.2.2.2.1 HL.out.1.size
            by_cases hlt : k < l.length
            · have hlt' : (k : Int) < (l.length : Int) := by omega
              obtain ⟨⟨xk, xn, xd⟩, hx⟩ : ∃ x, l[k]? = some x := ⟨_, List.getElem?_eq_getElem hlt⟩
              obtain ⟨ao', cap', he', hit⟩ := HNr.out.lr.items
              cases he'
              obtain ⟨g, off, rfl, i0, i1, i2⟩ := hit k _ hx
              have heach := HE.out.2 (o ++ told) ⟨xk, xn, xd⟩ wr hBr HL.out.2.1
              have HEA := Lib.hid heach
              have HXX := Lib.hid (fun (_ : Unit) => And.intro hx hBr)
              simp only at i0 i1 i2
              clear heach hx hit hBr
              go_wp2_with fail
              refine (show Calls Try.prog 75 #[.agg #[.string xk, .string xn, .int .i64 xd], .pointer (some ⟨cb, 0, none⟩)] wr _ from HEA.out).mono ?_
              clear HEA i0 i1 i2 n0
              rintro _ w5 ⟨v5, rfl, hB5, hv5⟩
              have HB5 := Lib.hid (show Below B w w5 ∧ B ≤ w5.heap.size from ⟨HL.out.1.trans hB5, Nat.le_trans (HXX.out ()).2 hB5.size⟩)
              clear hB5
              rcases hv5 with ⟨rfl, hJ5⟩ | ⟨rfl, hJ5, hst⟩
              · have hfrm := frame_from HB5.out.1
                have hnX : ∀ j ∈ X, j ∉ List.range' B (w.heap.size - B) := fun j hj hm => by have := HR.out.2.2.1 j hj; have := (List.mem_range'_1.1 hm).1; omega
                have HN5 := Lib.hid (HN.out.frame (P' := fun p q r => NodeAt h w5 p q r) hfrm hnX (fun kd hkd hp => NodeAt.frame hfrm h _ _ _ hp (fun j hj => hnX j (HN.out.own.2.2.2 kd hkd j hj))))
                have hlf := leaf_any nb _ (some ⟨gd, 0, none⟩) ks.length capd w5 HN5.out.b
                unfold ptrV at hlf
                have HLF := Lib.hid hlf
                have HJ5 := Lib.hid hJ5
                have hw2 : IntKind.i64.wrap ((k : Int) + 1) = (k : Int) + 1 := IntWalk.i64_in _ (by omega)
                clear hfrm hnX hlf hJ5
                go_wp2_with fail
                refine HLF.out.mono ?_
                clear HLF
                rintro _ w6 ⟨rfl, rfl⟩
                have hkl : ¬ ks.length = 0 := by have := (HKS.out ()).1.1; omega
                simp only [decide_eq_false hkl]
                obtain ⟨kd2, hkd2⟩ : ∃ kd, ks[k + 1]? = some kd := ⟨_, List.getElem?_eq_getElem (by have := (HKS.out ()).1.1; omega)⟩
                have hkm := List.mem_of_getElem? hkd2
                obtain ⟨gd2, cd2, curd2, he2, hcd2, hgd2, hcurd2⟩ := HN5.out.dr.cells (by rw [List.length_map]; omega)
                cases he2
                have hpx : curd2[k + 1]? = some (.pointer (some ⟨kd2.1, 0, none⟩)) := hcurd2 (k + 1) _ (by rw [List.getElem?_map, hkd2]; rfl)
                have d1 := cell_of hgd2 (k + 1)
                rw [hpx] at d1
                have n1 := cell_of HN5.out.b 1
                simp only [List.getElem?_toArray, List.getElem?_cons_zero, List.getElem?_cons_succ] at n1
                have hrw := restW_inner l ks k _ kd2 (HKS.out ()).2.1 (HXX.out ()).1 hkd2
                have hg := HL.out.2.2
                rw [hrw] at hg
                have hgr : RisI (gtr key L) := HR.out.1.sub List.filter_sublist
                rw [← hg] at hgr
                have hkr : RisI kd2.2.1 := hgr.app.2.1.cons.1.app.1
                have hkg : gtr key kd2.2.1 = kd2.2.1 := gtr_all fun x hx => by
                  have h1 : x ∈ gtr key L := by rw [← hg]; simp [hx]
                  exact (List.mem_filter.1 h1).2
                have hwk := HIH.out kd2.1 kd2.2.1 kd2.2.2 w5 (o ++ told ++ [⟨xk, xn, xd⟩]) (HN5.out.kids kd2 hkm) hkr (fun j hj => HR.out.2.2.1 j (HN.out.own.2.2.2 kd2 hkm j hj)) HB5.out.2 HJ5.out
                have HWK := Lib.hid hwk
                have HG2 := Lib.hid (fun (_ : Unit) => And.intro hg hkg)
                have hk4 : (k : Int) + 1 < (ks.length : Int) := by have := (HKS.out ()).1.1; omega
                clear hkl hkd2 hkm hgd2 hcurd2 hpx hcd2 hrw hg hgr hkr hkg hwk
                go_wp2_with fail
                refine HWK.out.mono ?_
                clear HWK
                rintro _ w7 ⟨v7, rfl, hB7, hv7⟩
                clear d1 n1
                rcases hv7 with ⟨rfl, hJ7⟩ | ⟨rfl, P7, S7, hPS7, hJ7, hst7⟩
                · have HL2 := Lib.hid (show Below B w w7 ∧ J (o ++ (told ++ [⟨xk, xn, xd⟩] ++ kd2.2.1)) w7 ∧ (told ++ [⟨xk, xn, xd⟩] ++ kd2.2.1) ++ restW l ks (k + 1) = gtr key L from
                    ⟨HB5.out.1.trans hB7, by
                      rw [(HG2.out ()).2] at hJ7
                      simpa using hJ7, by
                      rw [← (HG2.out ()).1]
                      simp⟩)
                  clear hB7 hJ7
                  go_wp2_with fail
                  exact ⟨⟨k + 1, _, by omega, by omega, by go_num, HL2⟩, by simp [intOf]; omega⟩
                · have HX := Lib.hid (show WalkRes B J stop key L o w (.bool false) w7 from ⟨HB5.out.1.trans hB7, .inr ⟨rfl, told ++ [⟨xk, xn, xd⟩] ++ P7, S7 ++ restW l ks (k + 1), by
                    rw [← (HG2.out ()).1]
                    have := (HG2.out ()).2.symm.trans hPS7
                    rw [this]
                    simp, by simpa using hJ7, by simpa using hst7⟩⟩)
                  clear hB7 hPS7 hJ7 hst7
                  go_wp2_with fail
                  go_ret
                  exact RetV.of HX.out
              · have HX := Lib.hid (show WalkRes B J stop key L o w (.bool false) w5 from ⟨HB5.out.1, .inr ⟨rfl, told, restW l ks k, HL.out.2.2.symm, hJ5, hst⟩⟩)
                clear hJ5 hst
                go_wp2_with fail
                go_ret
                exact RetV.of HX.out
            · obtain rfl : k = l.length := by omega
              have HX := Lib.hid (show WalkRes B J stop key L o w (.bool true) wr from ⟨HL.out.1, .inl ⟨rfl, by
                have h1 := HL.out.2.2
                rw [restW_end _ _ _ (Nat.le_refl _), List.append_nil] at h1
                rw [← h1]
                exact HL.out.2.1⟩⟩)
              clear hlt hBr
              go_wp2_with fail
              go_ret
              exact RetV.of HX.out
        · have HX := Lib.hid (show WalkRes B J stop key L o w (.bool false) w3 from ⟨HB3.out.1, .inr ⟨rfl, P, S ++ restW l ks fi, by rw [(HKS.out ()).2.2.1, hPS, List.append_assoc], hJ3, hst⟩⟩)
          clear hPS hJ3 hst
          go_wp2_with fail
          go_ret
          exact RetV.of HX.out


end Go.Proofs.Ytkapmpngglibjaa
