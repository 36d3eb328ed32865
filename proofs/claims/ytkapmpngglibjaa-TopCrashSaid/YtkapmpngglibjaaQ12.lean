/- Several texts in one: what each begins with says what it shows. Conditions: each law's own premises. -/
import Derived.Test.YtkapmpngglibjaaQ11
import Derived.Deep.QuietTactic
import Derived.BigQuiet
import Derived.WalkSmall

/- The reference's way to apply changes, walked. Conditions: each contract's own premises. -/
namespace Go.Proofs.Ytkapmpngglibjaa
open Go Go.RowKit

theorem ChangesAt.flat {w : World} {v : Value} {l : List Chg} (h : ChangesAt w v l) : ∃ sp cap, v = .slice sp l.length cap ∧ (0 < l.length → ∃ ad, sp = some ad ∧ ∀ j u, (flC l)[j]? = some u → w.cell? (ad.add j) = some u) := by
  have h' := h
  obtain ⟨sp, cap, rfl, hm, hr⟩ := h
  rw [List.length_map] at *
  refine ⟨sp, cap, rfl, fun h0 => ?_⟩
  obtain ⟨b, off, cap', e, hc⟩ := SliceAt.flat h' (cells_len l) (by rw [List.length_map]; exact h0)
  injection e with e1
  exact ⟨_, e1, hc⟩

/-- What a walk reads of a slice of changes: its form, and each one's cells. -/
theorem ChangesAt.form {w : World} {v : Value} {l : List Chg} (h : ChangesAt w v l) : ∃ ao cap, v = .slice ao l.length cap ∧
    ∀ (i : Nat) (c : Chg), l[i]? = some c → ∃ b off, ao = some ⟨b, off, none⟩ ∧ w.cell? ⟨b, off + i * 3, none⟩ = some (.string c.key) ∧ w.cell? ⟨b, off + i * 3 + 1, none⟩ = some (.string c.val) ∧ w.cell? ⟨b, off + i * 3 + 2, none⟩ = some (.bool c.gone) := by
  obtain ⟨ao, cap, rfl, -, hr⟩ := h
  refine ⟨ao, cap, by rw [List.length_map], fun i c hc => ?_⟩
  obtain ⟨b, off, rfl, e⟩ := hr i c.cells (by rw [List.getElem?_map, hc]; rfl)
  exact ⟨b, off, rfl, e 0 _ rfl, e 1 _ rfl, e 2 _ rfl⟩

set_option maxHeartbeats 4000000 in
set_option maxRecDepth 100000 in
theorem applied_any (v1 v2 : Value) (l m : List Chg) (w : World) (h1 : ChangesAt w v1 l) (h2 : ChangesAt w v2 m) (hs : Rising l) (hn : l.length + m.length ≤ 900) :
    Calls Try.prog 43 #[v1, v2] w (RetV fun v w' => w'.ownsRow w.heap.size 64 3 v (refL l m).length (flC (refL l m)) ∧ Below w.heap.size w w') := by
  obtain ⟨i0, hi, hz0, hz1, hz2⟩ := info_parts info64
  obtain ⟨sp1, cap1, rfl, hfl⟩ := h1.flat
  obtain ⟨ao2, cap2, rfl, hr2⟩ := h2.form
  obtain ⟨n, hnn⟩ : ∃ n, n = m.length := ⟨_, rfl⟩
  rw [← hnn] at hn ⊢
  have HN := Lib.hid hnn
  have HR2 := Lib.hid hr2
  have HS := Lib.hid hs
  have n0 : (0 : Int) ≤ (n : Int) := by omega
  have n1 : (n : Int) ≤ 900 := by omega
  have HFL := Lib.hid hfl
  have HF1 := Lib.hid (flC_one l)
  have HFN := Lib.hid (flC_length l)
  obtain ⟨q, hq⟩ : ∃ q, q = l.length := ⟨_, rfl⟩
  rw [← hq] at hn HFL HFN ⊢
  have HQ := Lib.hid hq
  clear hnn hr2 hs hfl hq h1 h2
  go_enter Try.func43, Try.ntmps43
  go_wp2_with (at_builtin; refine wpList_append_any rfl (.const (.slice none 0 0)) (.tmp 10) 36 rfl w.heap.size 64 i0 _ 3 40 Try.underlying36 hi hz0 hz1 hz2 rfl (by decide) (.slice none 0 0) 0 [] rfl (World.ownsRow_nil _ _ _ _) sp1 q cap1 (flC l) rfl HFN.out HFL.out HF1.out q (Nat.zero_add _) (by unfold maxLen; omega) (by omega) (Nat.le_refl _) ?_)
  intro v w1 ho hg _
  have HO := Lib.hid (show w1.ownsRow w.heap.size 64 3 v (refL l (m.take 0)).length (flC (refL l (m.take 0))) by rw [List.take_zero, refL, List.foldl_nil, ← HQ.out]; simpa using ho)
  have hB1 := (Below.refl _ w).grown hg (Nat.le_refl _) (fun k hk => by cases hk)
  clear ho hg
  go_wp2_with fail
  go_loopw [5, 6] (fun v i wr => ∃ k : Nat, k ≤ n ∧ i = .int .i64 (k : Int) ∧ Below w.heap.size w wr ∧ Hid (wr.ownsRow w.heap.size 64 3 v (refL l (m.take k)).length (flC (refL l (m.take k))))) (fun _ i _ => n - (intOf i).toNat)
  case atStart => exact ⟨0, Nat.zero_le _, rfl, hB1, HO⟩
  case round =>
    clear hB1 HO
    obtain ⟨k, hk, rfl, hB, HO⟩ := hrel
    have k0 : (0 : Int) ≤ (k : Int) := by omega
    by_cases hlt : k < n
    · have k1 : (k : Int) < (n : Int) := by omega
      obtain ⟨⟨ck, cv, cg⟩, hc⟩ : ∃ a, m[k]? = some a := ⟨_, List.getElem?_eq_getElem (by rw [← HN.out]; exact hlt)⟩
      obtain ⟨b, off, rfl, c0, c1, c2⟩ := HR2.out k _ hc
      have up : ∀ (a : Addr) (u : Value), w.cell? a = some u → wr.cell? a = some u := fun a u hu => (hB.cell (World.block_lt_of_cell? w _ hu)).trans hu
      replace c0 := up _ _ c0
      replace c1 := up _ _ c1
      replace c2 := up _ _ c2
      have hstep : refL l (m.take (k + 1)) = ref1 (refL l (m.take k)) ⟨ck, cv, cg⟩ := by
        rw [List.take_add_one, hc]
        simp [refL]
      have hlen : (refL l (m.take k)).length ≤ 900 := by
        rw [refL_applyL _ _ HS.out]
        have h1 := applyL_length (m.take k) l
        rw [List.length_take] at h1
        have := HN.out
        have := HQ.out
        omega
      generalize refL l (m.take k) = rs at *
      have HSTEP := Lib.hid hstep
      have HLEN := Lib.hid hlen
      have hat : OwnC wr u5 rs := owns_zero HO.out
      obtain ⟨ao, cap, rfl, hr⟩ := hat.at.form
      have HR := Lib.hid hr
      obtain ⟨r, hrr⟩ : ∃ r, r = rs.length := ⟨_, rfl⟩
      rw [← hrr] at HLEN ⊢
      rw [← hrr] at hlen
      have r1 : (r : Int) ≤ 900 := by omega
      have HRR := Lib.hid hrr
      have HSZ := Lib.hid hB.size
      clear up hc hstep hat hr hrr
      obtain ⟨wo, hwo⟩ : ∃ wo : World, wo = wr := ⟨_, rfl⟩
      subst hwo
      go_wp2_with fail
      have C0 := Lib.hid c0
      have C1 := Lib.hid c1
      have C2 := Lib.hid c2
      clear c0 c1 c2
      go_loopw [7, 8, 9] (fun v lb j wr => ∃ (p : Nat) (nx : List Chg) (ld : Bool), p ≤ r ∧ j = .int .i64 (p : Int) ∧ lb = .bool ld ∧ Hid ((rs.take p).foldl (step1 ⟨ck, cv, cg⟩) ([], cg) = (nx, ld)) ∧ Hid (Below wo.heap.size wo wr) ∧
        Hid (wr.ownsRow wo.heap.size 64 3 v nx.length (flC nx)) ∧ nx.length ≤ 2 * p) (fun _ _ j _ => r - (intOf j).toNat)
      case atStart => exact ⟨0, [], cg, Nat.zero_le _, rfl, rfl, rfl, Below.refl _ _, World.ownsRow_nil _ _ _ _, by simp⟩
      case round =>
        obtain ⟨p, nx, ld, hp, rfl, rfl, HFO, HBI, HOI, hnx⟩ := hrel
        have p0 : (0 : Int) ≤ (p : Int) := by omega
        by_cases hpl : p < r
        · have p1 : (p : Int) < (r : Int) := by omega
          obtain ⟨⟨xk, xv, xg⟩, hx⟩ : ∃ a, rs[p]? = some a := ⟨_, List.getElem?_eq_getElem (by rw [← HRR.out]; exact hpl)⟩
          obtain ⟨b', off', rfl, x0, x1, x2⟩ := HR.out p _ hx
          have X0 := Lib.hid x0
          have X1 := Lib.hid x1
          have X2 := Lib.hid x2
          have hstp : (rs.take (p + 1)).foldl (step1 ⟨ck, cv, cg⟩) ([], cg) = step1 ⟨ck, cv, cg⟩ (nx, ld) ⟨xk, xv, xg⟩ := by
            rw [List.take_add_one, hx, List.foldl_append, HFO.out]
            rfl
          have HST := Lib.hid hstp
          have hleq : ∀ t, binOp .leq t (.string ck) (.string xk) = pure (.bool (Op.bytesLess ck.toList xk.toList || ck.toList == xk.toList)) := fun t => by simp [binOp, Op.stringOp]
          clear hx hstp x0 x1 x2
          have upwr : ∀ (a : Addr) (u : Value), wo.cell? a = some u → wr.cell? a = some u := fun a u hu => (HBI.out.cell (World.block_lt_of_cell? wo _ hu)).trans hu
          have c0wr := upwr _ _ C0.out
          have c1wr := upwr _ _ C1.out
          have c2wr := upwr _ _ C2.out
          have x0wr := upwr _ _ X0.out
          have x1wr := upwr _ _ X1.out
          have x2wr := upwr _ _ X2.out
          clear upwr

          cases ld
          · cases hL : (Op.bytesLess ck.toList xk.toList || ck.toList == xk.toList)
            · go_wp2_with fail
              go_quiet (fail)
              have HBB := Lib.hid (below_drewN HBI.out nq)
              have HOB := Lib.hid (show (wr.drewN nq).ownsRow wo.heap.size 64 3 _ nx.length (flC nx) from HOI.out)
              generalize wr.drewN nq = wB at HBB HOB ⊢
              clear c0wr c1wr c2wr x0wr x1wr x2wr
              have upwB : ∀ (a : Addr) (u : Value), wo.cell? a = some u → wB.cell? a = some u := fun a u hu => (HBB.out.cell (World.block_lt_of_cell? wo _ hu)).trans hu
              have c0wB := upwB _ _ C0.out
              have c1wB := upwB _ _ C1.out
              have c2wB := upwB _ _ C2.out
              have x0wB := upwB _ _ X0.out
              have x1wB := upwB _ _ X1.out
              have x2wB := upwB _ _ X2.out
              clear upwB
              have HLL := Lib.hid hL
              clear hL
              go_wp2_with fail
              cases hE : (xk.toList == ck.toList)
              · go_quiet (fail)
                have HBA := Lib.hid (below_drewN HBB.out nq)
                have HOA := Lib.hid (show (wB.drewN nq).ownsRow wo.heap.size 64 3 _ nx.length (flC nx) from HOB.out)
                generalize wB.drewN nq = wA at HBA HOA ⊢
                clear c0wB c1wB c2wB x0wB x1wB x2wB
                have upwA : ∀ (a : Addr) (u : Value), wo.cell? a = some u → wA.cell? a = some u := fun a u hu => (HBA.out.cell (World.block_lt_of_cell? wo _ hu)).trans hu
                have c0wA := upwA _ _ C0.out
                have c1wA := upwA _ _ C1.out
                have c2wA := upwA _ _ C2.out
                have x0wA := upwA _ _ X0.out
                have x1wA := upwA _ _ X1.out
                have x2wA := upwA _ _ X2.out
                clear upwA
                go_wp2_with (at_builtin; refine wpList_append_any rfl (.tmp 62) (.tmp 67) 36 rfl wo.heap.size 64 i0 _ 3 40 Try.underlying36 hi hz0 hz1 hz2 rfl (by decide) _ nx.length (flC nx) rfl (World.ownsRow.alloc (w := wA) HOA.out _) (some ⟨wA.heap.size, 0, none⟩) 1 1 [.string xk, .string xv, .bool xg] rfl rfl ?_ (by simp [Value.oneCell']) (nx.length + 1) rfl (by unfold maxLen; omega) (by omega) ?_ ?_)
                · exact fun _ => ⟨_, rfl, fun j u hu => by
                    rw [addr_add]
                    exact (cell_of (heap_alloc_new wA _) j).trans (by simpa using hu)⟩
                · exact Nat.le_trans HBA.out.size (by simp)
                intro vZ wZ ho hg _
                have HOZ := Lib.hid (show wZ.ownsRow wo.heap.size 64 3 vZ (nx ++ [(⟨xk, xv, xg⟩ : Chg)]).length (flC (nx ++ [(⟨xk, xv, xg⟩ : Chg)])) by
                  rw [flC_append, List.length_append]
                  exact ho)
                have HBZ := Lib.hid (((HBA.out).alloc HBA.out.size _).grown hg (Nat.le_trans HBA.out.size (by simp)) (fun b hb => (World.ownsRow.lt HOA.out b hb).1))
                clear ho hg
                have HE := Lib.hid hE
                clear hE
                clear c0wA c1wA c2wA x0wA x1wA x2wA
                go_wp2_with fail
                exact ⟨⟨p + 1, (nx ++ [⟨xk, xv, xg⟩]), false, by omega, by go_num, rfl, Lib.hid (by rw [HST.out]; simp [step1, HLL.out, HE.out]), HBZ, HOZ, by first | omega | (simp only [List.length_append, List.length_cons, List.length_nil]; omega)⟩, by simp [intOf]; omega⟩

              · go_quiet (fail)
                have HBA := Lib.hid (below_drewN HBB.out nq)
                have HOA := Lib.hid (show (wB.drewN nq).ownsRow wo.heap.size 64 3 _ nx.length (flC nx) from HOB.out)
                generalize wB.drewN nq = wA at HBA HOA ⊢
                clear c0wB c1wB c2wB x0wB x1wB x2wB
                have upwA : ∀ (a : Addr) (u : Value), wo.cell? a = some u → wA.cell? a = some u := fun a u hu => (HBA.out.cell (World.block_lt_of_cell? wo _ hu)).trans hu
                have c0wA := upwA _ _ C0.out
                have c1wA := upwA _ _ C1.out
                have c2wA := upwA _ _ C2.out
                have x0wA := upwA _ _ X0.out
                have x1wA := upwA _ _ X1.out
                have x2wA := upwA _ _ X2.out
                clear upwA
                have HE := Lib.hid hE
                clear hE
                clear c0wA c1wA c2wA x0wA x1wA x2wA
                go_wp2_with fail
                exact ⟨⟨p + 1, nx, false, by omega, by go_num, rfl, Lib.hid (by rw [HST.out]; simp [step1, HLL.out, HE.out]), HBA, HOA, by first | omega | (simp only [List.length_append, List.length_cons, List.length_nil]; omega)⟩, by simp [intOf]; omega⟩

            · go_wp2_with fail
              go_quiet (fail)
              have HBB := Lib.hid (below_drewN HBI.out nq)
              have HOB := Lib.hid (show (wr.drewN nq).ownsRow wo.heap.size 64 3 _ nx.length (flC nx) from HOI.out)
              generalize wr.drewN nq = wB at HBB HOB ⊢
              clear c0wr c1wr c2wr x0wr x1wr x2wr
              have upwB : ∀ (a : Addr) (u : Value), wo.cell? a = some u → wB.cell? a = some u := fun a u hu => (HBB.out.cell (World.block_lt_of_cell? wo _ hu)).trans hu
              have c0wB := upwB _ _ C0.out
              have c1wB := upwB _ _ C1.out
              have c2wB := upwB _ _ C2.out
              have x0wB := upwB _ _ X0.out
              have x1wB := upwB _ _ X1.out
              have x2wB := upwB _ _ X2.out
              clear upwB
              have HLL := Lib.hid hL
              clear hL
              go_wp2_with (at_builtin; refine wpList_append_any rfl (.tmp 44) (.tmp 49) 36 rfl wo.heap.size 64 i0 _ 3 40 Try.underlying36 hi hz0 hz1 hz2 rfl (by decide) _ nx.length (flC nx) rfl (World.ownsRow.alloc (w := wB) HOB.out _) (some ⟨wB.heap.size, 0, none⟩) 1 1 [.string ck, .string cv, .bool cg] rfl rfl ?_ (by simp [Value.oneCell']) (nx.length + 1) rfl (by unfold maxLen; omega) (by omega) ?_ ?_)
              · exact fun _ => ⟨_, rfl, fun j u hu => by
                  rw [addr_add]
                  exact (cell_of (heap_alloc_new wB _) j).trans (by simpa using hu)⟩
              · exact Nat.le_trans HBB.out.size (by simp)
              intro vD wD ho hg _
              have HOD := Lib.hid (show wD.ownsRow wo.heap.size 64 3 vD (nx ++ [(⟨ck, cv, cg⟩ : Chg)]).length (flC (nx ++ [(⟨ck, cv, cg⟩ : Chg)])) by
                rw [flC_append, List.length_append]
                exact ho)
              have HBD := Lib.hid (((HBB.out).alloc HBB.out.size _).grown hg (Nat.le_trans HBB.out.size (by simp)) (fun b hb => (World.ownsRow.lt HOB.out b hb).1))
              clear ho hg
              clear c0wB c1wB c2wB x0wB x1wB x2wB
              have upwD : ∀ (a : Addr) (u : Value), wo.cell? a = some u → wD.cell? a = some u := fun a u hu => (HBD.out.cell (World.block_lt_of_cell? wo _ hu)).trans hu
              have c0wD := upwD _ _ C0.out
              have c1wD := upwD _ _ C1.out
              have c2wD := upwD _ _ C2.out
              have x0wD := upwD _ _ X0.out
              have x1wD := upwD _ _ X1.out
              have x2wD := upwD _ _ X2.out
              clear upwD
              have hlD : (nx ++ [(⟨ck, cv, cg⟩ : Chg)]).length ≤ 2 * p + 1 := by simp only [List.length_append, List.length_cons, List.length_nil]; omega
              generalize hnxD : nx ++ [(⟨ck, cv, cg⟩ : Chg)] = nxD at HOD hlD
              have HNXD := Lib.hid hnxD
              clear hnxD
              go_wp2_with fail
              cases hE : (xk.toList == ck.toList)
              · go_quiet (fail)
                have HBA := Lib.hid (below_drewN HBD.out nq)
                have HOA := Lib.hid (show (wD.drewN nq).ownsRow wo.heap.size 64 3 _ nxD.length (flC nxD) from HOD.out)
                generalize wD.drewN nq = wA at HBA HOA ⊢
                clear c0wD c1wD c2wD x0wD x1wD x2wD
                have upwA : ∀ (a : Addr) (u : Value), wo.cell? a = some u → wA.cell? a = some u := fun a u hu => (HBA.out.cell (World.block_lt_of_cell? wo _ hu)).trans hu
                have c0wA := upwA _ _ C0.out
                have c1wA := upwA _ _ C1.out
                have c2wA := upwA _ _ C2.out
                have x0wA := upwA _ _ X0.out
                have x1wA := upwA _ _ X1.out
                have x2wA := upwA _ _ X2.out
                clear upwA
                go_wp2_with (at_builtin; refine wpList_append_any rfl (.tmp 62) (.tmp 67) 36 rfl wo.heap.size 64 i0 _ 3 40 Try.underlying36 hi hz0 hz1 hz2 rfl (by decide) _ nxD.length (flC nxD) rfl (World.ownsRow.alloc (w := wA) HOA.out _) (some ⟨wA.heap.size, 0, none⟩) 1 1 [.string xk, .string xv, .bool xg] rfl rfl ?_ (by simp [Value.oneCell']) (nxD.length + 1) rfl (by unfold maxLen; omega) (by omega) ?_ ?_)
                · exact fun _ => ⟨_, rfl, fun j u hu => by
                    rw [addr_add]
                    exact (cell_of (heap_alloc_new wA _) j).trans (by simpa using hu)⟩
                · exact Nat.le_trans HBA.out.size (by simp)
                intro vZ wZ ho hg _
                have HOZ := Lib.hid (show wZ.ownsRow wo.heap.size 64 3 vZ (nxD ++ [(⟨xk, xv, xg⟩ : Chg)]).length (flC (nxD ++ [(⟨xk, xv, xg⟩ : Chg)])) by
                  rw [flC_append, List.length_append]
                  exact ho)
                have HBZ := Lib.hid (((HBA.out).alloc HBA.out.size _).grown hg (Nat.le_trans HBA.out.size (by simp)) (fun b hb => (World.ownsRow.lt HOA.out b hb).1))
                clear ho hg
                have HE := Lib.hid hE
                clear hE
                clear c0wA c1wA c2wA x0wA x1wA x2wA
                go_wp2_with fail
                exact ⟨⟨p + 1, (nxD ++ [⟨xk, xv, xg⟩]), true, by omega, by go_num, rfl, Lib.hid (by rw [HST.out]; simp [step1, HLL.out, ← HNXD.out, HE.out]), HBZ, HOZ, by first | omega | (simp only [List.length_append, List.length_cons, List.length_nil]; omega)⟩, by simp [intOf]; omega⟩

              · go_quiet (fail)
                have HBA := Lib.hid (below_drewN HBD.out nq)
                have HOA := Lib.hid (show (wD.drewN nq).ownsRow wo.heap.size 64 3 _ nxD.length (flC nxD) from HOD.out)
                generalize wD.drewN nq = wA at HBA HOA ⊢
                clear c0wD c1wD c2wD x0wD x1wD x2wD
                have upwA : ∀ (a : Addr) (u : Value), wo.cell? a = some u → wA.cell? a = some u := fun a u hu => (HBA.out.cell (World.block_lt_of_cell? wo _ hu)).trans hu
                have c0wA := upwA _ _ C0.out
                have c1wA := upwA _ _ C1.out
                have c2wA := upwA _ _ C2.out
                have x0wA := upwA _ _ X0.out
                have x1wA := upwA _ _ X1.out
                have x2wA := upwA _ _ X2.out
                clear upwA
                have HE := Lib.hid hE
                clear hE
                clear c0wA c1wA c2wA x0wA x1wA x2wA
                go_wp2_with fail
                exact ⟨⟨p + 1, nxD, true, by omega, by go_num, rfl, Lib.hid (by rw [HST.out]; simp [step1, HLL.out, ← HNXD.out, HE.out]), HBA, HOA, by first | omega | (simp only [List.length_append, List.length_cons, List.length_nil]; omega)⟩, by simp [intOf]; omega⟩

          · go_wp2_with fail
            go_quiet (fail)
            have HBB := Lib.hid (below_drewN HBI.out nq)
            have HOB := Lib.hid (show (wr.drewN nq).ownsRow wo.heap.size 64 3 _ nx.length (flC nx) from HOI.out)
            generalize wr.drewN nq = wB at HBB HOB ⊢
            clear c0wr c1wr c2wr x0wr x1wr x2wr
            have upwB : ∀ (a : Addr) (u : Value), wo.cell? a = some u → wB.cell? a = some u := fun a u hu => (HBB.out.cell (World.block_lt_of_cell? wo _ hu)).trans hu
            have c0wB := upwB _ _ C0.out
            have c1wB := upwB _ _ C1.out
            have c2wB := upwB _ _ C2.out
            have x0wB := upwB _ _ X0.out
            have x1wB := upwB _ _ X1.out
            have x2wB := upwB _ _ X2.out
            clear upwB
            go_wp2_with fail
            cases hE : (xk.toList == ck.toList)
            · go_quiet (fail)
              have HBA := Lib.hid (below_drewN HBB.out nq)
              have HOA := Lib.hid (show (wB.drewN nq).ownsRow wo.heap.size 64 3 _ nx.length (flC nx) from HOB.out)
              generalize wB.drewN nq = wA at HBA HOA ⊢
              clear c0wB c1wB c2wB x0wB x1wB x2wB
              have upwA : ∀ (a : Addr) (u : Value), wo.cell? a = some u → wA.cell? a = some u := fun a u hu => (HBA.out.cell (World.block_lt_of_cell? wo _ hu)).trans hu
              have c0wA := upwA _ _ C0.out
              have c1wA := upwA _ _ C1.out
              have c2wA := upwA _ _ C2.out
              have x0wA := upwA _ _ X0.out
              have x1wA := upwA _ _ X1.out
              have x2wA := upwA _ _ X2.out
              clear upwA
              go_wp2_with (at_builtin; refine wpList_append_any rfl (.tmp 62) (.tmp 67) 36 rfl wo.heap.size 64 i0 _ 3 40 Try.underlying36 hi hz0 hz1 hz2 rfl (by decide) _ nx.length (flC nx) rfl (World.ownsRow.alloc (w := wA) HOA.out _) (some ⟨wA.heap.size, 0, none⟩) 1 1 [.string xk, .string xv, .bool xg] rfl rfl ?_ (by simp [Value.oneCell']) (nx.length + 1) rfl (by unfold maxLen; omega) (by omega) ?_ ?_)
              · exact fun _ => ⟨_, rfl, fun j u hu => by
                  rw [addr_add]
                  exact (cell_of (heap_alloc_new wA _) j).trans (by simpa using hu)⟩
              · exact Nat.le_trans HBA.out.size (by simp)
              intro vZ wZ ho hg _
              have HOZ := Lib.hid (show wZ.ownsRow wo.heap.size 64 3 vZ (nx ++ [(⟨xk, xv, xg⟩ : Chg)]).length (flC (nx ++ [(⟨xk, xv, xg⟩ : Chg)])) by
                rw [flC_append, List.length_append]
                exact ho)
              have HBZ := Lib.hid (((HBA.out).alloc HBA.out.size _).grown hg (Nat.le_trans HBA.out.size (by simp)) (fun b hb => (World.ownsRow.lt HOA.out b hb).1))
              clear ho hg
              have HE := Lib.hid hE
              clear hE
              clear c0wA c1wA c2wA x0wA x1wA x2wA
              go_wp2_with fail
              exact ⟨⟨p + 1, (nx ++ [⟨xk, xv, xg⟩]), true, by omega, by go_num, rfl, Lib.hid (by rw [HST.out]; simp [step1, HE.out]), HBZ, HOZ, by first | omega | (simp only [List.length_append, List.length_cons, List.length_nil]; omega)⟩, by simp [intOf]; omega⟩

            · go_quiet (fail)
              have HBA := Lib.hid (below_drewN HBB.out nq)
              have HOA := Lib.hid (show (wB.drewN nq).ownsRow wo.heap.size 64 3 _ nx.length (flC nx) from HOB.out)
              generalize wB.drewN nq = wA at HBA HOA ⊢
              clear c0wB c1wB c2wB x0wB x1wB x2wB
              have upwA : ∀ (a : Addr) (u : Value), wo.cell? a = some u → wA.cell? a = some u := fun a u hu => (HBA.out.cell (World.block_lt_of_cell? wo _ hu)).trans hu
              have c0wA := upwA _ _ C0.out
              have c1wA := upwA _ _ C1.out
              have c2wA := upwA _ _ C2.out
              have x0wA := upwA _ _ X0.out
              have x1wA := upwA _ _ X1.out
              have x2wA := upwA _ _ X2.out
              clear upwA
              have HE := Lib.hid hE
              clear hE
              clear c0wA c1wA c2wA x0wA x1wA x2wA
              go_wp2_with fail
              exact ⟨⟨p + 1, nx, true, by omega, by go_num, rfl, Lib.hid (by rw [HST.out]; simp [step1, HE.out]), HBA, HOA, by first | omega | (simp only [List.length_append, List.length_cons, List.length_nil]; omega)⟩, by simp [intOf]; omega⟩

        · obtain rfl : p = r := by omega
          have hfo := HFO.out
          rw [List.take_of_length_le (by rw [← HRR.out]; exact Nat.le_refl _)] at hfo
          cases ld
          · have href : ref1 rs ⟨ck, cv, cg⟩ = nx ++ [⟨ck, cv, cg⟩] := by simp [ref1, hfo]
            have HREF := Lib.hid href
            clear href hfo
            have c0wr := (HBI.out.cell (World.block_lt_of_cell? wo _ C0.out)).trans C0.out
            have c1wr := (HBI.out.cell (World.block_lt_of_cell? wo _ C1.out)).trans C1.out
            have c2wr := (HBI.out.cell (World.block_lt_of_cell? wo _ C2.out)).trans C2.out
            go_wp2_with (at_builtin; refine wpList_append_any rfl (.tmp 71) (.tmp 76) 36 rfl wo.heap.size 64 i0 _ 3 40 Try.underlying36 hi hz0 hz1 hz2 rfl (by decide) _ nx.length (flC nx) rfl (World.ownsRow.alloc (w := wr) HOI.out _) (some ⟨wr.heap.size, 0, none⟩) 1 1 [.string ck, .string cv, .bool cg] rfl rfl ?_ (by simp [Value.oneCell']) (nx.length + 1) rfl (by unfold maxLen; omega) (by omega) ?_ ?_)
            · exact fun _ => ⟨_, rfl, fun j u hu => by
                rw [addr_add]
                exact (cell_of (heap_alloc_new wr _) j).trans (by simpa using hu)⟩
            · exact Nat.le_trans HBI.out.size (by simp)
            intro vZ wZ ho hg _
            have HOZ := Lib.hid (show wZ.ownsRow wo.heap.size 64 3 vZ (nx ++ [(⟨ck, cv, cg⟩ : Chg)]).length (flC (nx ++ [(⟨ck, cv, cg⟩ : Chg)])) by
              rw [flC_append, List.length_append]
              exact ho)
            have HBZ := Lib.hid (((HBI.out).alloc HBI.out.size _).grown hg (Nat.le_trans HBI.out.size (by simp)) (fun b hb => (World.ownsRow.lt HOI.out b hb).1))
            clear ho hg

            clear c0wr c1wr c2wr
            have hrel : wZ.ownsRow w.heap.size 64 3 vZ (refL l (m.take (k + 1))).length (flC (refL l (m.take (k + 1)))) := by
              rw [HSTEP.out, HREF.out]
              exact owns_base HOZ.out HSZ.out
            have HREL := Lib.hid hrel
            have hBZ : Below w.heap.size w wZ := hB.trans (HBZ.out.mono HSZ.out)
            clear hrel
            go_wp2_with fail
            exact ⟨⟨k + 1, by omega, by go_num, hBZ, HREL⟩, by simp [intOf]; omega⟩
          · have href : ref1 rs ⟨ck, cv, cg⟩ = nx := by simp [ref1, hfo]
            have hrel : wr.ownsRow w.heap.size 64 3 u7 (refL l (m.take (k + 1))).length (flC (refL l (m.take (k + 1)))) := by
              rw [HSTEP.out, href]
              exact owns_base HOI.out HSZ.out
            have HREL := Lib.hid hrel
            have hBZ : Below w.heap.size w wr := hB.trans (HBI.out.mono HSZ.out)
            clear hrel href hfo
            go_wp2_with fail
            exact ⟨⟨k + 1, by omega, by go_num, hBZ, HREL⟩, by simp [intOf]; omega⟩
    · obtain rfl : k = n := by omega
      have hall : m.take k = m := List.take_of_length_le (by rw [← HN.out]; exact Nat.le_refl _)
      rw [hall] at HO
      clear hall
      go_wp2_with fail
      go_ret
      exact RetV.of ⟨HO.out, hB⟩

end Go.Proofs.Ytkapmpngglibjaa

/- row.Apply. Conditions: the contract's own premises. -/
namespace Go.Proofs.Ytkapmpngglibjaa
open Go Go.RowKit

set_option maxHeartbeats 4000000 in
set_option maxRecDepth 100000 in
theorem apply_any (v1 v2 : Value) (l m : List Chg) (w : World) (h1 : ChangesAt w v1 l) (h2 : ChangesAt w v2 m) (hs : Rising l) (hn : l.length + m.length ≤ 900) :
    Calls Try.prog 42 #[v1, v2] w (RetV fun v w' => OwnC w' v (applyL l m) ∧ (∀ k, v.ownBlock = some k → w.heap.size ≤ k) ∧ Below w.heap.size w w') := by
  obtain ⟨ao2, cap2, rfl, hm2, hr2⟩ := h2
  simp only [List.length_map] at *
  obtain ⟨n, hnn⟩ : ∃ n, n = m.length := ⟨_, rfl⟩
  rw [← hnn] at hn ⊢
  have HN := Lib.hid hnn
  have HR2 := Lib.hid hr2
  have HS := Lib.hid hs
  have H1 := Lib.hid h1
  clear hnn hr2 hm2 hs h1
  have n0 : (0 : Int) ≤ (n : Int) := by omega
  have n1 : (n : Int) ≤ 900 := by omega
  go_enter Try.func42, Try.ntmps42
  go_wp2_with fail
  refine (cloneC_any v1 _ w H1.out (cells_len l) (flC_one l) (by rw [List.length_map]; omega)).mono ?_
  rintro e w1 ⟨v, rfl, ho, hB⟩
  rw [List.length_map] at ho
  have HO := Lib.hid (show OwnC w1 v l from owns_zero ho)
  have HB := Lib.hid (fun k hk => (World.ownsRow.lt ho k hk).1)
  clear ho
  go_wp2_with fail
  go_loopw [0, 13] (fun v i wr => ∃ k : Nat, k ≤ n ∧ i = .int .i64 (k : Int) ∧ Below w.heap.size w wr ∧ Hid (OwnC wr v (applyL l (m.take k))) ∧ Hid (∀ b, v.ownBlock = some b → w.heap.size ≤ b)) (fun _ i _ => n - (intOf i).toNat)
  case atStart => exact ⟨0, by omega, rfl, hB, HO, HB⟩
  case round =>
    clear HO HB hB
    obtain ⟨k, hk, rfl, hB, HO, HB⟩ := hrel
    have k0 : (0 : Int) ≤ (k : Int) := by omega
    by_cases hlt : k < n
    · have k1 : (k : Int) < (n : Int) := by omega
      obtain ⟨⟨ck, cv, cg⟩, hc⟩ : ∃ a, m[k]? = some a := ⟨_, List.getElem?_eq_getElem (by rw [← HN.out]; exact hlt)⟩
      obtain ⟨b, off, rfl, e1⟩ := HR2.out k _ (by rw [List.getElem?_map, hc]; rfl)
      have up : ∀ (a : Addr) (u : Value), w.cell? a = some u → wr.cell? a = some u := fun a u hu => (hB.cell (World.block_lt_of_cell? w _ hu)).trans hu
      have c0 := up _ _ (e1 0 _ rfl)
      have c1 := up _ _ (e1 1 _ rfl)
      have c2 := up _ _ (e1 2 _ rfl)
      simp only [Nat.add_zero] at c0
      have hstep : applyL l (m.take (k + 1)) = put1 (applyL l (m.take k)) ⟨ck, cv, cg⟩ := by
        rw [List.take_add_one, hc]
        simp [applyL]
      have hlen : (applyL l (m.take k)).length ≤ 900 := by
        have h1 := applyL_length (m.take k) l
        rw [List.length_take] at h1
        have := HN.out
        omega
      have hris := applyL_rising (m.take k) l HS.out
      generalize applyL l (m.take k) = rs at *
      have HSTEP := Lib.hid hstep
      have HRIS := Lib.hid hris
      have HLEN := Lib.hid hlen
      clear up e1 hc hstep hris hlen
      go_wp2_with fail
      have hOa : OwnC (wr.alloc (.cells #[.string ck, .string cv, .bool cg] 64)) u0 rs := HO.out.frame (X := []) ((Frame.refl [] wr).alloc _) (fun _ _ => by simp)
      refine (searchC_any u0 rs ck _ hOa.at (by have := HLEN.out; omega) HRIS.out).mono ?_
      rintro e w2 ⟨rfl, hB2⟩
      have hC : w2.heap[wr.heap.size]? = some (.cells #[.string ck, .string cv, .bool cg] 64) := by
        rw [hB2.block _ (by rw [size_alloc]; omega), heap_alloc_new]
      have hsz : wr.heap.size < w2.heap.size := lt_of_heap hC
      have d0 := cell_of hC 0
      have d1 := cell_of hC 1
      have d2 := cell_of hC 2
      simp only [List.getElem?_toArray, List.getElem?_cons_zero, List.getElem?_cons_succ] at d0 d1 d2
      have HO2 := Lib.hid (hOa.frame (Frame.of_below [] hB2) (fun _ _ => by simp))
      have hB3 : Below w.heap.size w w2 := (hB.alloc hB.size _).trans (hB2.mono (by rw [size_alloc]; have := hB.size; omega))
      have hle := low_le rs ck
      have HLOW := Lib.hid (And.intro (low_lt (l := rs) (k := ck)) (Eq.refl (put1 rs ⟨ck, cv, cg⟩)))
      have HSZ := Lib.hid hB.size
      have HP := Lib.hid (show put1 rs ⟨ck, cv, cg⟩ = (if hasAt rs ck then (if cg then rs.take (lowOf rs ck) ++ rs.drop (lowOf rs ck + 1) else rs.take (lowOf rs ck) ++ ⟨ck, cv, cg⟩ :: rs.drop (lowOf rs ck + 1)) else if cg then rs else rs.take (lowOf rs ck) ++ ⟨ck, cv, cg⟩ :: rs.drop (lowOf rs ck)) from rfl)
      have HL := Lib.hid (fun h => low_lt (l := rs) (k := ck) h)
      clear hB2 hC hOa HLOW HO hB
      generalize lowOf rs ck = i at *
      generalize hasAt rs ck = is at *
      have i0 : (0 : Int) ≤ (i : Int) := by omega
      have i1 : (i : Int) ≤ 900 := by have := HLEN.out; omega
      have HLE := Lib.hid hle
      clear hle
      cases is
      · cases cg
        · go_wp2_with fail
          have hown : (w2.alloc (.cells #[.string ck, .string cv, .bool false] 64)).ownsRow 0 64 3 u0 rs.length (flC (rs.take i) ++ flC (rs.drop i)) := by
            rw [← flC_append, List.take_append_drop]
            exact World.ownsRow.alloc HO2.out _
          refine (insertC_any u0 (flC (rs.take i)) (flC (rs.drop i)) [.string ck, .string cv, .bool false] i rs.length w2.heap.size _ (by rw [flC_length, List.length_take, Nat.min_eq_left HLE.out]) hown HLE.out (heap_alloc_new _ _) rfl (by simp [Value.oneCell']) (flC_one _) (fun hk => Nat.lt_irrefl _ (World.ownsRow.lt HO2.out _ hk).2) (by have := HLEN.out; omega)).mono ?_
          rintro e w3 ⟨v3, rfl, h1, h2, h3⟩
          have hrel : OwnC w3 v3 (applyL l (m.take (k + 1))) := by
            rw [HSTEP.out, HP.out, OwnC]
            simp only [Bool.false_eq_true, if_false]
            rw [flC_append, flC_cons, ← List.append_assoc]
            have e : (rs.take i ++ ⟨ck, cv, false⟩ :: rs.drop i).length = rs.length + 1 := by
              have := HLE.out
              simp only [List.length_append, List.length_cons, List.length_take, List.length_drop]
              omega
            rw [e]
            exact h1
          have hB4 : Below w.heap.size w w3 := (hB3.alloc hB3.size (.cells #[.string ck, .string cv, .bool false] 64)).trans (h2.below (by rw [size_alloc]; have := hB3.size; omega) (fun b hb => HB.out b (by simpa using hb)))
          have hb4 : ∀ b, v3.ownBlock = some b → w.heap.size ≤ b := fun b hb => (h3 b hb).elim (HB.out b) fun h => by
            rw [size_alloc] at h
            have := hB3.size
            omega
          have HREL := Lib.hid hrel
          have HB4 := Lib.hid hb4
          clear h1 h2 h3 hrel hb4 hown
          go_wp2_with fail
          exact ⟨⟨k + 1, by omega, by go_num, hB4, HREL, HB4⟩, by simp [intOf]; omega⟩
        · go_wp2_with fail
          exact ⟨⟨k + 1, by omega, by go_num, hB3, Lib.hid (by rw [HSTEP.out, HP.out]; exact HO2.out), HB⟩, by simp [intOf]; omega⟩
      · cases cg
        · obtain ⟨d, hd, -⟩ := HL.out (by first | rfl | trivial)
          have hin : i < rs.length := (List.getElem?_eq_some_iff.1 hd).1
          obtain ⟨g, cap, cur, rfl, -, hg, hnc, hcm, hcs, htk⟩ := owns_open HO2.out (by omega)
          have hcell : ∀ j, j < 3 → w2.cell? ⟨g, i * 3 + j, none⟩ = d.cells[j]? := fun j hj => by
            have h1 := flatten_get (rs.map Chg.cells) (cells_len rs) i j d.cells hj (by rw [List.getElem?_map, hd]; rfl)
            have h2 := owns_cell HO2.out (j := i * 3 + j) (by omega)
            rw [h2]
            exact h1
          have e0 := hcell 0 (by omega)
          have e1 := hcell 1 (by omega)
          have e2 := hcell 2 (by omega)
          simp only [Nat.add_zero, Chg.cells, List.getElem?_cons_zero, List.getElem?_cons_succ] at e0 e1 e2
          have f0 := frozen_of hg (i * 3)
          have f1 := frozen_of hg (i * 3 + 1)
          have f2 := frozen_of hg (i * 3 + 2)
          have hrel : OwnC (((w2.setCell ⟨g, i * 3, none⟩ (.string ck)).setCell ⟨g, i * 3 + 1, none⟩ (.string cv)).setCell ⟨g, i * 3 + 2, none⟩ (.bool false)) (.slice (some ⟨g, 0, none⟩) rs.length cap) (applyL l (m.take (k + 1))) := by
            rw [HSTEP.out, HP.out, OwnC]
            simp only [Bool.false_eq_true, if_true, if_false]
            have e : (rs.take i ++ ⟨ck, cv, false⟩ :: rs.drop (i + 1)).length = rs.length := by
              simp only [List.length_append, List.length_cons, List.length_take, List.length_drop]
              omega
            have h1 := owns_setK (owns_setK (owns_setK HO2.out (i * 3) (.string ck)) (i * 3 + 1) (.string cv)) (i * 3 + 2) (.bool false)
            have hsp : rs = rs.take i ++ d :: rs.drop (i + 1) := by
              have : d = rs[i] := by
                rw [List.getElem?_eq_getElem hin] at hd
                exact (Option.some.inj hd).symm
              rw [this, List.getElem_cons_drop, List.take_append_drop]
            have hfl : flC rs = flC (rs.take i) ++ [.string d.key, .string d.val, .bool d.gone] ++ flC (rs.drop (i + 1)) := by
              conv => lhs; rw [hsp]
              rw [flC_append, flC_cons, ← List.append_assoc]
              rfl
            rw [hfl, set_three _ _ _ _ _ _ _ _ (i * 3) (by rw [flC_length, List.length_take, Nat.min_eq_left HLE.out])] at h1
            rw [e, flC_append, flC_cons, ← List.append_assoc]
            exact h1
          have hgb := HB.out g rfl
          have hB4 : Below w.heap.size w (((w2.setCell ⟨g, i * 3, none⟩ (.string ck)).setCell ⟨g, i * 3 + 1, none⟩ (.string cv)).setCell ⟨g, i * 3 + 2, none⟩ (.bool false)) :=
            ((hB3.setCell (p := ⟨g, i * 3, none⟩) hgb _).setCell (p := ⟨g, i * 3 + 1, none⟩) hgb _).setCell (p := ⟨g, i * 3 + 2, none⟩) hgb _
          have HREL := Lib.hid hrel
          have hinz : (i : Int) < (rs.length : Int) := by omega
          have hl9 : (rs.length : Int) ≤ 900 := by have := HLEN.out; omega
          clear hcell hd hg hnc hcm hcs htk hrel HO2 HL HP HSTEP
          go_wp2_with fail
          exact ⟨⟨k + 1, by omega, by go_num, hB4, HREL, HB⟩, by simp [intOf]; omega⟩
        · go_wp2_with fail
          obtain ⟨d, hd, -⟩ := HL.out (by first | rfl | trivial)
          have hin : i < rs.length := (List.getElem?_eq_some_iff.1 hd).1
          have hsp : rs = rs.take i ++ d :: rs.drop (i + 1) := by
            have : d = rs[i] := by
              rw [List.getElem?_eq_getElem hin] at hd
              exact (Option.some.inj hd).symm
            rw [this, List.getElem_cons_drop, List.take_append_drop]
          have hfl : flC rs = flC (rs.take i) ++ d.cells ++ flC (rs.drop (i + 1)) := by
            conv => lhs; rw [hsp]
            rw [flC_append, flC_cons, ← List.append_assoc]
          have hown : w2.ownsRow 0 64 3 u0 rs.length (flC (rs.take i) ++ d.cells ++ flC (rs.drop (i + 1))) := by
            rw [← hfl]
            exact HO2.out
          refine (deleteC_any u0 (flC (rs.take i)) (flC (rs.drop (i + 1))) d.cells i rs.length w2 (by rw [flC_length, List.length_take, Nat.min_eq_left HLE.out]) hown hin rfl (flC_one _) (by have := HLEN.out; omega)).mono ?_
          rintro e w3 ⟨v3, rfl, h0, h1, h2⟩
          have hrel : OwnC w3 v3 (applyL l (m.take (k + 1))) := by
            rw [HSTEP.out, HP.out, OwnC]
            simp only [if_true]
            rw [flC_append]
            have e : (rs.take i ++ rs.drop (i + 1)).length = rs.length - 1 := by
              simp only [List.length_append, List.length_take, List.length_drop]
              omega
            rw [e]
            exact h1
          have hB4 : Below w.heap.size w w3 := hB3.trans (h2.below hB3.size (fun b hb => HB.out b (by simpa using hb)))
          have hb4 : ∀ b, v3.ownBlock = some b → w.heap.size ≤ b := fun b hb => HB.out b (by rw [← h0]; exact hb)
          have HREL := Lib.hid hrel
          have HB4 := Lib.hid hb4
          clear h0 h1 h2 hrel hb4 hown hfl hsp hd
          go_wp2_with fail
          exact ⟨⟨k + 1, by omega, by go_num, hB4, HREL, HB4⟩, by simp [intOf]; omega⟩
    · obtain rfl : k = n := by omega
      have hall : m.take k = m := List.take_of_length_le (by rw [← HN.out]; exact Nat.le_refl _)
      rw [hall] at HO
      clear hall
      go_wp2_with fail
      go_ret
      exact RetV.of ⟨HO.out, HB.out, hB⟩

end Go.Proofs.Ytkapmpngglibjaa
