/- row.Apply. Conditions: the contract's own premises. -/
import Derived.Test.YtkapmpngglibjaaRowF
namespace Go.Proofs.Ytkapmpngglibjaa
open Go Go.RowKit

set_option maxHeartbeats 4000000 in
set_option maxRecDepth 100000 in
theorem apply_any (v1 v2 : Value) (l m : List Chg) (w : World) (h1 : ChangesAt w v1 l) (h2 : ChangesAt w v2 m) (hs : Rising l) (hn : l.length + m.length ≤ 900) :
    Calls Try.prog 42 #[v1, v2] w (RetV fun v w' => OwnC w' v (applyL l m) ∧ (∀ k, v.ownBlock = some k → w.heap.size ≤ k) ∧ Below w.heap.size w w') := by
  obtain ⟨ao2, cap2, rfl, hm2, hr2⟩ := h2
  simp only [List.length_map] at *
  obtain ⟨n, hnn⟩ : ∃ n, n = m.length := ⟨_, rfl⟩
  rw [← hnn] at hn ⊢
  have HN := Lib.hid hnn
  have HR2 := Lib.hid hr2
  have HS := Lib.hid hs
  have H1 := Lib.hid h1
  clear hnn hr2 hm2 hs h1
  have n0 : (0 : Int) ≤ (n : Int) := by omega
  have n1 : (n : Int) ≤ 900 := by omega
  go_enter Try.func42, Try.ntmps42
  go_wp2_with fail
  refine (cloneC_any v1 _ w H1.out (cells_len l) (flC_one l) (by rw [List.length_map]; omega)).mono ?_
  rintro e w1 ⟨v, rfl, ho, hB⟩
  rw [List.length_map] at ho
  have HO := Lib.hid (show OwnC w1 v l from owns_zero ho)
  have HB := Lib.hid (fun k hk => (World.ownsRow.lt ho k hk).1)
  clear ho
  go_wp2_with fail
  go_loopw [0, 13] (fun v i wr => ∃ k : Nat, k ≤ n ∧ i = .int .i64 (k : Int) ∧ Below w.heap.size w wr ∧ Hid (OwnC wr v (applyL l (m.take k))) ∧ Hid (∀ b, v.ownBlock = some b → w.heap.size ≤ b)) (fun _ i _ => n - (intOf i).toNat)
  case atStart => exact ⟨0, by omega, rfl, hB, HO, HB⟩
  case round =>
    clear HO HB hB
    obtain ⟨k, hk, rfl, hB, HO, HB⟩ := hrel
    have k0 : (0 : Int) ≤ (k : Int) := by omega
    by_cases hlt : k < n
    · have k1 : (k : Int) < (n : Int) := by omega
      obtain ⟨⟨ck, cv, cg⟩, hc⟩ : ∃ a, m[k]? = some a := ⟨_, List.getElem?_eq_getElem (by rw [← HN.out]; exact hlt)⟩
      obtain ⟨b, off, rfl, e1⟩ := HR2.out k _ (by rw [List.getElem?_map, hc]; rfl)
      have up : ∀ (a : Addr) (u : Value), w.cell? a = some u → wr.cell? a = some u := fun a u hu => (hB.cell (World.block_lt_of_cell? w _ hu)).trans hu
      have c0 := up _ _ (e1 0 _ rfl)
      have c1 := up _ _ (e1 1 _ rfl)
      have c2 := up _ _ (e1 2 _ rfl)
      simp only [Nat.add_zero] at c0
      have hstep : applyL l (m.take (k + 1)) = put1 (applyL l (m.take k)) ⟨ck, cv, cg⟩ := by
        rw [List.take_add_one, hc]
        simp [applyL]
      have hlen : (applyL l (m.take k)).length ≤ 900 := by
        have h1 := applyL_length (m.take k) l
        rw [List.length_take] at h1
        have := HN.out
        omega
      have hris := applyL_rising (m.take k) l HS.out
      generalize applyL l (m.take k) = rs at *
      have HSTEP := Lib.hid hstep
      have HRIS := Lib.hid hris
      have HLEN := Lib.hid hlen
      clear up e1 hc hstep hris hlen
      go_wp2_with fail
      have hOa : OwnC (wr.alloc (.cells #[.string ck, .string cv, .bool cg] 64)) u0 rs := HO.out.frame (X := []) ((Frame.refl [] wr).alloc _) (fun _ _ => by simp)
      refine (searchC_any u0 rs ck _ hOa.at (by have := HLEN.out; omega) HRIS.out).mono ?_
      rintro e w2 ⟨rfl, hB2⟩
      have hC : w2.heap[wr.heap.size]? = some (.cells #[.string ck, .string cv, .bool cg] 64) := by
        rw [hB2.block _ (by rw [size_alloc]; omega), heap_alloc_new]
      have hsz : wr.heap.size < w2.heap.size := lt_of_heap hC
      have d0 := cell_of hC 0
      have d1 := cell_of hC 1
      have d2 := cell_of hC 2
      simp only [List.getElem?_toArray, List.getElem?_cons_zero, List.getElem?_cons_succ] at d0 d1 d2
      have HO2 := Lib.hid (hOa.frame (Frame.of_below [] hB2) (fun _ _ => by simp))
      have hB3 : Below w.heap.size w w2 := (hB.alloc hB.size _).trans (hB2.mono (by rw [size_alloc]; have := hB.size; omega))
      have hle := low_le rs ck
      have HLOW := Lib.hid (And.intro (low_lt (l := rs) (k := ck)) (Eq.refl (put1 rs ⟨ck, cv, cg⟩)))
      have HSZ := Lib.hid hB.size
      have HP := Lib.hid (show put1 rs ⟨ck, cv, cg⟩ = (if hasAt rs ck then (if cg then rs.take (lowOf rs ck) ++ rs.drop (lowOf rs ck + 1) else rs.take (lowOf rs ck) ++ ⟨ck, cv, cg⟩ :: rs.drop (lowOf rs ck + 1)) else if cg then rs else rs.take (lowOf rs ck) ++ ⟨ck, cv, cg⟩ :: rs.drop (lowOf rs ck)) from rfl)
      have HL := Lib.hid (fun h => low_lt (l := rs) (k := ck) h)
      clear hB2 hC hOa HLOW HO hB
      generalize lowOf rs ck = i at *
      generalize hasAt rs ck = is at *
      have i0 : (0 : Int) ≤ (i : Int) := by omega
      have i1 : (i : Int) ≤ 900 := by have := HLEN.out; omega
      have HLE := Lib.hid hle
      clear hle
      cases is
      · cases cg
        · go_wp2_with fail
          have hown : (w2.alloc (.cells #[.string ck, .string cv, .bool false] 64)).ownsRow 0 64 3 u0 rs.length (flC (rs.take i) ++ flC (rs.drop i)) := by
            rw [← flC_append, List.take_append_drop]
            exact World.ownsRow.alloc HO2.out _
          refine (insertC_any u0 (flC (rs.take i)) (flC (rs.drop i)) [.string ck, .string cv, .bool false] i rs.length w2.heap.size _ (by rw [flC_length, List.length_take, Nat.min_eq_left HLE.out]) hown HLE.out (heap_alloc_new _ _) rfl (by simp [Value.oneCell']) (flC_one _) (fun hk => Nat.lt_irrefl _ (World.ownsRow.lt HO2.out _ hk).2) (by have := HLEN.out; omega)).mono ?_
          rintro e w3 ⟨v3, rfl, h1, h2, h3⟩
          have hrel : OwnC w3 v3 (applyL l (m.take (k + 1))) := by
            rw [HSTEP.out, HP.out, OwnC]
            simp only [Bool.false_eq_true, if_false]
            rw [flC_append, flC_cons, ← List.append_assoc]
            have e : (rs.take i ++ ⟨ck, cv, false⟩ :: rs.drop i).length = rs.length + 1 := by
              have := HLE.out
              simp only [List.length_append, List.length_cons, List.length_take, List.length_drop]
              omega
            rw [e]
            exact h1
          have hB4 : Below w.heap.size w w3 := (hB3.alloc hB3.size (.cells #[.string ck, .string cv, .bool false] 64)).trans (h2.below (by rw [size_alloc]; have := hB3.size; omega) (fun b hb => HB.out b (by simpa using hb)))
          have hb4 : ∀ b, v3.ownBlock = some b → w.heap.size ≤ b := fun b hb => (h3 b hb).elim (HB.out b) fun h => by
            rw [size_alloc] at h
            have := hB3.size
            omega
          have HREL := Lib.hid hrel
          have HB4 := Lib.hid hb4
          clear h1 h2 h3 hrel hb4 hown
          go_wp2_with fail
          exact ⟨⟨k + 1, by omega, by go_num, hB4, HREL, HB4⟩, by simp [intOf]; omega⟩
        · go_wp2_with fail
          exact ⟨⟨k + 1, by omega, by go_num, hB3, Lib.hid (by rw [HSTEP.out, HP.out]; exact HO2.out), HB⟩, by simp [intOf]; omega⟩
      · cases cg
        · obtain ⟨d, hd, -⟩ := HL.out (by first | rfl | trivial)
          have hin : i < rs.length := (List.getElem?_eq_some_iff.1 hd).1
          obtain ⟨g, cap, cur, rfl, -, hg, hnc, hcm, hcs, htk⟩ := owns_open HO2.out (by omega)
          have hcell : ∀ j, j < 3 → w2.cell? ⟨g, i * 3 + j, none⟩ = d.cells[j]? := fun j hj => by
            have h1 := flatten_get (rs.map Chg.cells) (cells_len rs) i j d.cells hj (by rw [List.getElem?_map, hd]; rfl)
            have h2 := owns_cell HO2.out (j := i * 3 + j) (by omega)
            rw [h2]
            exact h1
          have e0 := hcell 0 (by omega)
          have e1 := hcell 1 (by omega)
          have e2 := hcell 2 (by omega)
          simp only [Nat.add_zero, Chg.cells, List.getElem?_cons_zero, List.getElem?_cons_succ] at e0 e1 e2
          have f0 := frozen_of hg (i * 3)
          have f1 := frozen_of hg (i * 3 + 1)
          have f2 := frozen_of hg (i * 3 + 2)
          have hrel : OwnC (((w2.setCell ⟨g, i * 3, none⟩ (.string ck)).setCell ⟨g, i * 3 + 1, none⟩ (.string cv)).setCell ⟨g, i * 3 + 2, none⟩ (.bool false)) (.slice (some ⟨g, 0, none⟩) rs.length cap) (applyL l (m.take (k + 1))) := by
            rw [HSTEP.out, HP.out, OwnC]
            simp only [Bool.false_eq_true, if_true, if_false]
            have e : (rs.take i ++ ⟨ck, cv, false⟩ :: rs.drop (i + 1)).length = rs.length := by
              simp only [List.length_append, List.length_cons, List.length_take, List.length_drop]
              omega
            have h1 := owns_setK (owns_setK (owns_setK HO2.out (i * 3) (.string ck)) (i * 3 + 1) (.string cv)) (i * 3 + 2) (.bool false)
            have hsp : rs = rs.take i ++ d :: rs.drop (i + 1) := by
              have : d = rs[i] := by
                rw [List.getElem?_eq_getElem hin] at hd
                exact (Option.some.inj hd).symm
              rw [this, List.getElem_cons_drop, List.take_append_drop]
            have hfl : flC rs = flC (rs.take i) ++ [.string d.key, .string d.val, .bool d.gone] ++ flC (rs.drop (i + 1)) := by
              conv => lhs; rw [hsp]
              rw [flC_append, flC_cons, ← List.append_assoc]
              rfl
            rw [hfl, set_three _ _ _ _ _ _ _ _ (i * 3) (by rw [flC_length, List.length_take, Nat.min_eq_left HLE.out])] at h1
            rw [e, flC_append, flC_cons, ← List.append_assoc]
            exact h1
          have hgb := HB.out g rfl
          have hB4 : Below w.heap.size w (((w2.setCell ⟨g, i * 3, none⟩ (.string ck)).setCell ⟨g, i * 3 + 1, none⟩ (.string cv)).setCell ⟨g, i * 3 + 2, none⟩ (.bool false)) :=
            ((hB3.setCell (p := ⟨g, i * 3, none⟩) hgb _).setCell (p := ⟨g, i * 3 + 1, none⟩) hgb _).setCell (p := ⟨g, i * 3 + 2, none⟩) hgb _
          have HREL := Lib.hid hrel
          have hinz : (i : Int) < (rs.length : Int) := by omega
          have hl9 : (rs.length : Int) ≤ 900 := by have := HLEN.out; omega
          clear hcell hd hg hnc hcm hcs htk hrel HO2 HL HP HSTEP
          go_wp2_with fail
          exact ⟨⟨k + 1, by omega, by go_num, hB4, HREL, HB⟩, by simp [intOf]; omega⟩
        · go_wp2_with fail
          obtain ⟨d, hd, -⟩ := HL.out (by first | rfl | trivial)
          have hin : i < rs.length := (List.getElem?_eq_some_iff.1 hd).1
          have hsp : rs = rs.take i ++ d :: rs.drop (i + 1) := by
            have : d = rs[i] := by
              rw [List.getElem?_eq_getElem hin] at hd
              exact (Option.some.inj hd).symm
            rw [this, List.getElem_cons_drop, List.take_append_drop]
          have hfl : flC rs = flC (rs.take i) ++ d.cells ++ flC (rs.drop (i + 1)) := by
            conv => lhs; rw [hsp]
            rw [flC_append, flC_cons, ← List.append_assoc]
          have hown : w2.ownsRow 0 64 3 u0 rs.length (flC (rs.take i) ++ d.cells ++ flC (rs.drop (i + 1))) := by
            rw [← hfl]
            exact HO2.out
          refine (deleteC_any u0 (flC (rs.take i)) (flC (rs.drop (i + 1))) d.cells i rs.length w2 (by rw [flC_length, List.length_take, Nat.min_eq_left HLE.out]) hown hin rfl (flC_one _) (by have := HLEN.out; omega)).mono ?_
          rintro e w3 ⟨v3, rfl, h0, h1, h2⟩
          have hrel : OwnC w3 v3 (applyL l (m.take (k + 1))) := by
            rw [HSTEP.out, HP.out, OwnC]
            simp only [if_true]
            rw [flC_append]
            have e : (rs.take i ++ rs.drop (i + 1)).length = rs.length - 1 := by
              simp only [List.length_append, List.length_take, List.length_drop]
              omega
            rw [e]
            exact h1
          have hB4 : Below w.heap.size w w3 := hB3.trans (h2.below hB3.size (fun b hb => HB.out b (by simpa using hb)))
          have hb4 : ∀ b, v3.ownBlock = some b → w.heap.size ≤ b := fun b hb => HB.out b (by rw [← h0]; exact hb)
          have HREL := Lib.hid hrel
          have HB4 := Lib.hid hb4
          clear h0 h1 h2 hrel hb4 hown hfl hsp hd
          go_wp2_with fail
          exact ⟨⟨k + 1, by omega, by go_num, hB4, HREL, HB4⟩, by simp [intOf]; omega⟩
    · obtain rfl : k = n := by omega
      have hall : m.take k = m := List.take_of_length_le (by rw [← HN.out]; exact Nat.le_refl _)
      rw [hall] at HO
      clear hall
      go_wp2_with fail
      go_ret
      exact RetV.of ⟨HO.out, HB.out, hB⟩

end Go.Proofs.Ytkapmpngglibjaa
