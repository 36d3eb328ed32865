/- plain.Split, walked. Conditions: each contract's own premises. -/
import Derived.Test.YtkapmpngglibjaaDoorDN
namespace Go.Proofs.YtkapmpngglibjaaDoor
open Go Go.RowKit Go.Lib

theorem stopHere {p : Prop} (h : True → p) : p := h trivial
theorem owns_form {w : World} {base : Nat} {e : TypeId} {size : Nat} {v : Value} {n : Nat} {xs : List Value} (h : w.ownsRow base e size v n xs) : ∃ ao cap, v = .slice ao n cap := by
  rcases h.2 with ⟨h1, h2⟩ | ⟨g, cap, cur, h1, -⟩
  · exact ⟨none, 0, by rw [h1, h2]⟩
  · exact ⟨_, cap, h1⟩

theorem info21 : (Tryd.prog.info? 21).map (fun i => (i.zero, i.size, i.bytes)) = some (some (.int .i32 0), 1, 4) := by kernel_rfl

/-- What the first loop has: the runes so far, split up. -/
structure SoFar (W w : World) (s : ByteArray) (pos n : Nat) (v : Value) (ls : List Int) : Prop where
  row : w.ownsRow (W.heap.size + 1) 21 1 v n (ls.map rV)
  len : ls.length = n
  all : ls ++ (runesAt s pos).flatMap splitR = (runesAt s 0).flatMap splitR
  bel : Below W.heap.size W w

set_option maxHeartbeats 8000000 in
set_option maxRecDepth 100000 in
theorem plainSplit_any (B : Nat) (s : ByteArray) (w : World) (hM : MarksAt B w) (hW : WholeAt B w) (hB : B ≤ w.heap.size) (hs : s.size ≤ 64) :
    Calls Tryd.prog 11 #[.string s] w (Ret (.string (runesBytes (ordR (allR s.data.toList)))) (Below w.heap.size w)) := by
  have HB := Lib.hid (And.intro hM (And.intro hW hB))
  have HS := Lib.hid (fun (_ : Unit) => hs)
  clear hM hW hB hs
  obtain ⟨H, hH⟩ : ∃ H, w.heap.size = H := ⟨_, rfl⟩
  have HH := Lib.hid (fun (_ : Unit) => hH)
  obtain ⟨i0, hi, hz0, hz1, hz2⟩ := info_parts info21
  go_enter Tryd.func11, Tryd.ntmps11
  go_wp2_with fail
  go_loopw [3] (fun lv wr => ∃ (pos n : Nat) (ls : List Int) (ao : Option Addr) (cap : Nat), lv = .slice ao n cap ∧ wr.heap[H]? = some (.stringIter s pos) ∧ Hid (SoFar w wr s pos n lv ls)) (fun _ wr => s.size - wr.iterPos H)
  case atStart =>
    refine ⟨0, 0, [], none, 0, rfl, ?_, Lib.hid ⟨World.ownsRow_nil _ _ _ _, rfl, rfl, (Below.refl _ w).alloc (by omega) _⟩⟩
    rw [← hH]
    exact World.iter_heap w s 0
  case round =>
    obtain ⟨pos, n, ls, ao, cap, rfl, hit, HI⟩ := hrel
    by_cases hp : pos < s.size
    · have hnx : ∀ ty, (Instr.next (.pointer (some ⟨H, 0, none⟩)) true ty).run Tryd.prog wr = _ := fun ty => run_next_any_at wr H s pos ty hit hp
      obtain ⟨p2, hp2⟩ : ∃ p2, pos + (Utf8.decode s pos).2 = p2 := ⟨_, rfl⟩
      obtain ⟨c, hc⟩ : ∃ c : Int, ((Utf8.decode s pos).1 : Int) = c := ⟨_, rfl⟩
      obtain ⟨wi, hwi⟩ : ∃ wi, wr.iterAt H s p2 = wi := ⟨_, rfl⟩
      simp only [hp2, hc, hwi] at hnx
      have hrow2 : wi.ownsRow (H + 1) 21 1 (.slice ao n cap) n (ls.map rV) := by
        rw [← hwi]
        have h1 := HI.out.row
        rw [HH.out ()] at h1
        refine owns_of_heap h1 fun k hk => iterAt_other _ _ _ _ _ ?_
        have h4 : H + 1 ≤ k := by
          rcases h1.2 with ⟨h2, -⟩ | ⟨g, cp, cur, h2, h3, -⟩
          · rw [h2] at hk; cases hk
          · rw [h2] at hk; cases hk; exact h3
        omega
      have hb2 : Below w.heap.size w wi := by rw [← hwi]; exact below_iterAt HI.out.bel (by rw [HH.out ()]; exact Nat.le_refl _) _ _
      have hit2 : wi.heap[H]? = some (.stringIter s p2) := by rw [← hwi]; exact iterAt_heap _ _ _ _ _ hit
      have hlen := HI.out.len
      have hall : (ls ++ splitR c) ++ (runesAt s p2).flatMap splitR = (runesAt s 0).flatMap splitR := by
        rw [← HI.out.all, runesAt_step hp, hp2, hc, List.flatMap_cons, List.append_assoc]
      have HX := Lib.hid (fun (_ : Unit) => And.intro hp2 (And.intro hit (And.intro hit2 (And.intro hrow2 (And.intro hb2 (And.intro hlen hall))))))
      have HC := Lib.hid (split_any B c wi (HB.out.2.1.below (hb2.mono HB.out.2.2)) (HB.out.1.below (hb2.mono HB.out.2.2)) (Nat.le_trans HB.out.2.2 hb2.size))
      clear hp2 hc hwi hit hit2 hrow2 hb2 hlen hall HI
      go_wp2_with fail
      refine HC.out.mono ?_
      clear HC
      rintro ev w1 ⟨v, rfl, g, rfl, hg, hrow, hbel⟩
      have HR := Lib.hid (And.intro hg (And.intro hrow hbel))
      clear hg hrow hbel
      obtain ⟨sr, hsr⟩ : ∃ sr, sr = splitR c := ⟨_, rfl⟩
      rw [← hsr] at HR ⊢
      have HSR := Lib.hid (fun (_ : Unit) => hsr)
      clear hsr
      go_wp2_with (at_builtin; refine stopHere ?_)
      intro _
      obtain ⟨K, hK⟩ : ∃ K, w1.heap.size = K := ⟨_, rfl⟩
      have hbw : Below w.heap.size w w1 := (HX.out ()).2.2.2.2.1.trans (HR.out.2.2.mono (HX.out ()).2.2.2.2.1.size)
      have hbd : 0 < sr.length ∧ n + sr.length ≤ 128 := by
        have h1 := (HX.out ()).2.2.2.2.2.1
        have h2 := congrArg List.length (HX.out ()).2.2.2.2.2.2
        have h3 := (allR_bounds s.data.toList.length s.data.toList (Nat.le_refl _)).2
        have h4 : s.data.toList.length ≤ 64 := by have := HS.out (); rw [Array.length_toList]; exact this
        have h5 : (runesAt s 0).flatMap splitR = allR s.data.toList := rfl
        rw [h5, List.length_append, List.length_append, ← HSR.out ()] at h2
        have h6 := (splitR_mkN c).2.2
        rw [← HSR.out ()] at h6
        exact ⟨List.length_pos_iff.2 h6, by omega⟩
      have hown : w1.ownsRow (H + 1) 21 1 (.slice ao n cap) n (ls.map rV) := owns_of_heap (HX.out ()).2.2.2.1 fun k hk => by
        obtain ⟨cur, hcur⟩ := owns_lt (HX.out ()).2.2.2.1 hk
        exact HR.out.2.2.block k (lt_of_heap hcur)
      have hit1 : w1.heap[H]? = some (.stringIter s p2) := (HR.out.2.2.block H (lt_of_heap (HX.out ()).2.2.1)).trans (HX.out ()).2.2.1
      have hH1 : H + 1 ≤ w1.heap.size := by have := lt_of_heap hit1; omega
      refine wpList_append_lies _ rfl (.tmp 13) (.tmp 15) 46 rfl (H + 1) 21 i0 _ 1 4 Tryd.underlying46 hi hz0 hz1 hz2 rfl (by decide) (.slice ao n cap) n (ls.map rV) rfl hown ⟨g, 0, none⟩ sr.length sr.length (sr.map rV) rfl (by simp) ?_ ?_ hbd.1 (by unfold maxLen; omega) (by omega) hH1 K hK ?_
      · intro j u hu
        rw [addr_add]
        refine (cell_of HR.out.2.1 j).trans ?_
        simpa using hu
      · intro u hu
        obtain ⟨x, -, rfl⟩ := List.mem_map.1 hu
        rfl
      intro g2 cap2 w2 ho hgr hor hlt
      have hgb : ∀ b, (Value.slice ao n cap).ownBlock = some b → H + 1 ≤ b := fun b hb => by
        rcases hown.2 with ⟨h2, -⟩ | ⟨g', cp, cur, h2, h3, -⟩
        · rw [h2] at hb; cases hb
        · rw [h2] at hb; cases hb; exact h3
      have hit2 : w2.heap[H]? = some (.stringIter s p2) := (hgr.block H (by omega) (fun e => by have := hgb H e.symm; omega)).trans hit1
      have HE := Lib.hid (show SoFar w w2 s p2 (n + sr.length) (.slice (some ⟨g2, 0, none⟩) (n + sr.length) cap2) (ls ++ sr) from
        ⟨by rw [List.map_append, HH.out ()]; exact ho, by rw [List.length_append, (HX.out ()).2.2.2.2.2.1], by rw [HSR.out ()]; exact (HX.out ()).2.2.2.2.2.2,
          hbw.grown hgr hbw.size (fun b hb => by have := hgb b hb; have := HH.out (); omega)⟩)
      have HIT := Lib.hid hit2
      clear hbw hbd hown hit1 hH1 ho hgr hor hlt hgb hit2 hK
      go_wp2_with fail
      refine ⟨⟨p2, _, _, _, _, rfl, HIT.out, HE⟩, ?_⟩
      have hX := HX.out ()
      have hw := runesAt_width s pos
      simp only [World.iterPos, HIT.out, hX.2.1]
      omega
    · have hnx : ∀ ty, (Instr.next (.pointer (some ⟨H, 0, none⟩)) true ty).run Tryd.prog wr = _ := fun ty => run_next_end_at wr H s pos ty hit hp
      obtain ⟨tot, htot⟩ : ∃ tot, tot = allR s.data.toList := ⟨_, rfl⟩
      have hls : ls = tot := by
        have h1 := HI.out.all
        rw [runesAt_end hp, List.flatMap_nil, List.append_nil] at h1
        rw [htot, h1]
        rfl
      subst hls
      have h64 : s.data.toList.length ≤ 64 := by have := HS.out (); rw [Array.length_toList]; exact this
      have hmk : mkN ls ≤ 32 ∧ ls.length ≤ 128 := by
        have h1 := allR_bounds s.data.toList.length s.data.toList (Nat.le_refl _)
        rw [← htot] at h1
        omega
      have HT := Lib.hid (And.intro HI.out.row (And.intro HI.out.len (And.intro HI.out.bel hmk)))
      have HTOT := Lib.hid (fun (_ : Unit) => htot)
      clear htot h64 hmk hit HI
      rcases ao with _ | ad
      · have hz : n = 0 ∧ ls = [] := by
          rcases HT.out.1.2 with ⟨h1, h2⟩ | ⟨g, cp, cur, h1, -⟩
          · exact ⟨h2, List.eq_nil_of_length_eq_zero (by rw [HT.out.2.1, h2])⟩
          · cases h1
        obtain ⟨rfl, rfl⟩ := hz
        have HR := Lib.hid HT.out.2.2.1
        have hcv := fun (u : World) => run_convert_runes_nil (P := Tryd.prog) u 46 9 21 0 cap Tryd.underlying46 Tryd.underlying21 Tryd.underlying9
        go_wp2_with fail
        go_loopw [6] (fun iv wq => iv = .int .i64 0 ∧ Hid (Below w.heap.size w wq)) (fun _ _ => 0)
        case atStart => exact ⟨rfl, HR⟩
        case round =>
          obtain ⟨rfl, HR⟩ := hrel
          go_wp2_with fail
          go_ret
          refine Ret.of ?_ HR.out
          rw [← HTOT.out ()]
          rfl
      · have hz : ∃ g, ad = ⟨g, 0, none⟩ ∧ ∃ T : List Value, RowAt wr g 21 [] ls T ∧ H + 1 ≤ g ∧ n ≤ cap ∧ cap ≤ maxLen := by
          rcases HT.out.1.2 with ⟨h1, -⟩ | ⟨g, cp, cur, h1, h2, h3, h4, h5, h6, h7⟩
          · cases h1
          · cases h1
            refine ⟨g, rfl, cur.toList.drop n, ?_, by rw [← HH.out ()]; exact h2, h4, h5⟩
            unfold RowAt
            rw [h3]
            have e : cur = ([] ++ ls.map rV ++ cur.toList.drop n).toArray := by
              apply Array.ext'
              rw [List.nil_append, ← h7, Nat.mul_one, List.take_append_drop]
            rw [← e]
        obtain ⟨g, rfl, T, q1, q2, q3, q4⟩ := hz
        have hn : (n : Int) ≤ 128 := by have := HT.out.2.1; have := HT.out.2.2.2.2; omega
        have n0 : (0 : Int) ≤ (n : Int) := by omega
        have c0 : (n : Int) ≤ (cap : Int) := by omega
        have c1 : (cap : Int) ≤ 9223372036854775807 := by unfold maxLen at q4; omega
        have HG := Lib.hid (And.intro q1 (And.intro q2 (And.intro q3 q4)))
        clear q1 q2 q3 q4
        go_wp2_with fail
        go_loopw [6] (fun iv wq => ∃ (i : Nat) (d : List Int), i ≤ n ∧ iv = .int .i64 (i : Int) ∧ Hid (RowAt wq g 21 [] d T ∧ OrdTo ls d i ∧ Below w.heap.size w wq)) (fun iv _ => n - (intOf iv).toNat)
        case atStart => exact ⟨0, ls, by omega, by go_num, Lib.hid ⟨HG.out.1, OrdTo.start _, HT.out.2.2.1⟩⟩
        case round =>
          obtain ⟨i, d, hin, rfl, HI⟩ := hrel
          have i0 : (0 : Int) ≤ (i : Int) := by omega
          have dl : d.length = n := by rw [HI.out.2.1.len]; exact HT.out.2.1
          have DL := Lib.hid (fun (_ : Unit) => dl)
          clear dl
          by_cases hlt : i < n
          · have hlt' : ((i : Int) < (n : Int)) = True := eq_true (by omega)
            go_wp2_with fail
            go_loopw [7] (fun kv wq => ∃ k : Nat, i ≤ k ∧ k ≤ n ∧ kv = .int .i64 (k : Int) ∧ Hid (RowAt wq g 21 [] d T ∧ Below w.heap.size w wq ∧ ∀ q, i ≤ q → q < k → clsR (d.getD q 0) ≠ 0)) (fun kv _ => n - (intOf kv).toNat)
            case atStart => exact ⟨i, Nat.le_refl _, hin, rfl, Lib.hid ⟨HI.out.1, HI.out.2.2, fun q h1 h2 => by omega⟩⟩
            case round =>
              obtain ⟨k, hik, hkn, rfl, HK⟩ := hrel
              have k0 : (0 : Int) ≤ (k : Int) := by omega
              by_cases hk : k < n
              · have hk' : ((k : Int) < (n : Int)) = True := eq_true (by omega)
                obtain ⟨x, hx⟩ : ∃ x, d.getD k 0 = x := ⟨_, rfl⟩
                have hcell := HK.out.1.cell (getD_at (d := d) (i := k) (by rw [DL.out ()]; exact hk))
                rw [hx, List.length_nil, Nat.zero_add] at hcell
                have HX := Lib.hid hx
                have HC := Lib.hid (class_any B x wr (HB.out.1.below (HK.out.2.1.mono HB.out.2.2)) (Nat.le_trans HB.out.2.2 HK.out.2.1.size))
                obtain ⟨c, hc⟩ : ∃ c, c = clsR x := ⟨_, rfl⟩
                rw [← hc] at HC
                have HCC := Lib.hid (fun (_ : Unit) => hc)
                clear hx hc
                go_wp2_with fail
                refine HC.out.mono ?_
                clear HC
                rintro ev w1 ⟨rfl, hb1⟩
                have HB1 := Lib.hid (HK.out.2.1.trans (hb1.mono HK.out.2.1.size))
                have HR1 := Lib.hid (HK.out.1.later hb1)
                clear hb1
                by_cases hc0 : 0 < c
                · have hc0' : (0 < c) = True := eq_true hc0
                  have HZ := Lib.hid (fun (_ : Unit) => hc0)
                  clear hc0
                  go_wp2_with fail
                  go_roundw
                  case rel =>
                    refine ⟨k + 1, by omega, by omega, by go_num, Lib.hid ⟨HR1.out, HB1.out, fun q h1 h2 => ?_⟩⟩
                    by_cases hq : q = k
                    · rw [hq, HX.out, ← HCC.out ()]
                      have := HZ.out ()
                      omega
                    · exact HK.out.2.2 q h1 (by omega)
                  case measure => simp [intOf]; omega
                · have hc0' : (0 < c) = False := eq_false hc0
                  have HJ := Lib.hid (show RowAt w1 g 21 [] d T ∧ Below w.heap.size w w1 ∧ (∀ q, i ≤ q → q < k → clsR (d.getD q 0) ≠ 0) ∧ (k < d.length → clsR (d.getD k 0) = 0) from
                    ⟨HR1.out, HB1.out, HK.out.2.2, fun _ => by
                      rw [HX.out, ← HCC.out ()]
                      have h1 := HCC.out ()
                      have h2 : 0 ≤ clsR x := by
                        unfold clsR
                        repeat' split
                        all_goals omega
                      omega⟩)
                  clear hc0
                  have ik : (i : Int) ≤ (k : Int) := by omega
                  have kc : (k : Int) ≤ (cap : Int) := by omega
                  have hrun : ((d.drop i).take (k - i)).length = k - i := part_len d i (k - i) (by have := DL.out (); omega)
                  have hA : ((d.take i).map rV).length = i := by rw [List.length_map, List.length_take]; have := DL.out (); omega
                  have hrow : RowAt w1 g 21 ((d.take i).map rV) ((d.drop i).take (k - i)) ((d.drop k).map rV ++ T) := by
                    unfold RowAt
                    rw [HJ.out.1]
                    congr 3
                    have e := cut4 d i k d.length hik (by rw [DL.out ()]; exact hkn)
                    have e2 : (d.drop k).take (d.length - k) = d.drop k := List.take_of_length_le (by rw [List.length_drop]; exact Nat.le_refl _)
                    have e3 : d.drop d.length = [] := List.drop_eq_nil_of_le (Nat.le_refl _)
                    rw [e2, e3, List.append_nil, List.drop_zero] at e
                    conv => lhs; rw [e]
                    simp
                  have hshort := HI.out.2.1.short (k := k) (by rw [DL.out ()]; exact hkn) HJ.out.2.2.1
                  have hso : InSort B w1 g 21 ((d.take i).map rV) ((d.drop i).take (k - i)) ((d.drop k).map rV ++ T) := ⟨hrow, fun y hy => by
                      obtain ⟨q, hq, rfl⟩ := List.mem_iff_getElem.1 hy
                      rw [hrun] at hq
                      have h1 := HJ.out.2.2.1 (i + q) (by omega) (by omega)
                      rw [← part_get d i (k - i) q hq, List.getD_eq_getElem?_getD, List.getElem?_eq_getElem (by rw [hrun]; exact hq)] at h1
                      exact isM_of_cls h1, HB.out.1.below (HJ.out.2.1.mono HB.out.2.2), by have := HB.out.2.2; have := HG.out.2.1; have := HH.out (); omega⟩
                  have HC := Lib.hid (sortStable_any B g (cap - i) 21 ((d.take i).map rV) ((d.drop i).take (k - i)) ((d.drop k).map rV ++ T) w1 hso (by rw [hrun]; have := HT.out.2.2.2.1; omega))
                  rw [hrun, hA] at HC
                  have HRUN := Lib.hid (fun (_ : Unit) => hrun)
                  clear hrun hA hrow hshort hso
                  go_wp2_with fail
                  refine HC.out.mono ?_
                  clear HC
                  rintro ev w2 ⟨rfl, hr⟩
                  have HN := Lib.hid (show ∃ d2, RowAt w2 g 21 [] d2 T ∧ OrdTo ls d2 (if k = i then i + 1 else k) ∧ Below w.heap.size w w2 from by
                    obtain ⟨r2, r3, r4, r5, r6⟩ := hr
                    have hd := HI.out.2.1.run hik (by rw [DL.out ()]; exact hkn) HJ.out.2.2.1 HJ.out.2.2.2 r4 r5
                    have hrow : RowAt w2 g 21 [] (d.take i ++ (r2 ++ d.drop k)) T := by
                      unfold RowAt at r3 ⊢
                      rw [r3]
                      simp
                    have hbl : Below w.heap.size w w2 := HJ.out.2.1.trans ((r6.below (B := w.heap.size) HJ.out.2.1.size (fun b hb => by rw [List.mem_singleton.1 hb]; have := HG.out.2.1; have := HH.out (); omega)))
                    by_cases hki : k = i
                    · rw [if_pos hki]
                      have hkl : k < (d.take i ++ (r2 ++ d.drop k)).length := by
                        rw [hd.len, ← HI.out.2.1.len, DL.out ()]
                        omega
                      have hcl : clsR ((d.take i ++ (r2 ++ d.drop k)).getD k 0) = 0 := by
                        have e1 : ((d.take i ++ (r2 ++ d.drop k)).drop k) = d.drop k := by
                          have h1 := congrArg (List.drop (k - i)) HI.out.2.1.rest
                          rw [List.drop_drop, List.drop_drop, show i + (k - i) = k by omega] at h1
                          rw [hd.rest, h1]
                        have e2 := congrArg (fun l => List.getD l 0 0) e1
                        simp only [List.getD_eq_getElem?_getD, List.getElem?_drop, Nat.add_zero] at e2
                        rw [List.getD_eq_getElem?_getD, e2, ← List.getD_eq_getElem?_getD]
                        exact HJ.out.2.2.2 (by rw [DL.out ()]; omega)
                      have h2 := hd.one hkl hcl
                      rw [hki] at h2 hrow
                      exact ⟨_, hrow, h2, hbl⟩
                    · rw [if_neg hki]
                      exact ⟨_, hrow, hd, hbl⟩)
                  clear hr HJ
                  have emax : max (i : Int) ((k : Int) - 1) = (((if k = i then i + 1 else k) - 1 : Nat) : Int) := by split <;> omega
                  obtain ⟨nx, hnx2⟩ : ∃ nx, nx = (if k = i then i + 1 else k) := ⟨_, rfl⟩
                  rw [← hnx2] at emax HN
                  have hnx3 : i < nx ∧ nx ≤ n := by split at hnx2 <;> omega
                  have enx : ((nx - 1 : Nat) : Int) + 1 = (nx : Int) := by omega
                  have HNX := Lib.hid (fun (_ : Unit) => hnx2)
                  clear hnx2
                  go_wp2_with fail
                  go_roundw
                  case rel =>
                    obtain ⟨d2, r1, r2, r3⟩ := HN.out
                    exact ⟨nx, d2, hnx3.2, by go_num, Lib.hid ⟨r1, r2, r3⟩⟩
                  case measure => simp [intOf]; omega
              · have hkn2 : k = n := by omega
                have hk' : ((k : Int) < (n : Int)) = False := eq_false (by omega)
                have HJ := Lib.hid (show RowAt wr g 21 [] d T ∧ Below w.heap.size w wr ∧ (∀ q, i ≤ q → q < k → clsR (d.getD q 0) ≠ 0) ∧ (k < d.length → clsR (d.getD k 0) = 0) from
                  ⟨HK.out.1, HK.out.2.1, HK.out.2.2, fun hh => by rw [DL.out ()] at hh; omega⟩)
                clear hkn2 hk
                have ik : (i : Int) ≤ (k : Int) := by omega
                have kc : (k : Int) ≤ (cap : Int) := by omega
                have hrun : ((d.drop i).take (k - i)).length = k - i := part_len d i (k - i) (by have := DL.out (); omega)
                have hA : ((d.take i).map rV).length = i := by rw [List.length_map, List.length_take]; have := DL.out (); omega
                have hrow : RowAt wr g 21 ((d.take i).map rV) ((d.drop i).take (k - i)) ((d.drop k).map rV ++ T) := by
                  unfold RowAt
                  rw [HJ.out.1]
                  congr 3
                  have e := cut4 d i k d.length hik (by rw [DL.out ()]; exact hkn)
                  have e2 : (d.drop k).take (d.length - k) = d.drop k := List.take_of_length_le (by rw [List.length_drop]; exact Nat.le_refl _)
                  have e3 : d.drop d.length = [] := List.drop_eq_nil_of_le (Nat.le_refl _)
                  rw [e2, e3, List.append_nil, List.drop_zero] at e
                  conv => lhs; rw [e]
                  simp
                have hshort := HI.out.2.1.short (k := k) (by rw [DL.out ()]; exact hkn) HJ.out.2.2.1
                have hso : InSort B wr g 21 ((d.take i).map rV) ((d.drop i).take (k - i)) ((d.drop k).map rV ++ T) := ⟨hrow, fun y hy => by
                    obtain ⟨q, hq, rfl⟩ := List.mem_iff_getElem.1 hy
                    rw [hrun] at hq
                    have h1 := HJ.out.2.2.1 (i + q) (by omega) (by omega)
                    rw [← part_get d i (k - i) q hq, List.getD_eq_getElem?_getD, List.getElem?_eq_getElem (by rw [hrun]; exact hq)] at h1
                    exact isM_of_cls h1, HB.out.1.below (HJ.out.2.1.mono HB.out.2.2), by have := HB.out.2.2; have := HG.out.2.1; have := HH.out (); omega⟩
                have HC := Lib.hid (sortStable_any B g (cap - i) 21 ((d.take i).map rV) ((d.drop i).take (k - i)) ((d.drop k).map rV ++ T) wr hso (by rw [hrun]; have := HT.out.2.2.2.1; omega))
                rw [hrun, hA] at HC
                have HRUN := Lib.hid (fun (_ : Unit) => hrun)
                clear hrun hA hrow hshort hso
                go_wp2_with fail
                refine HC.out.mono ?_
                clear HC
                rintro ev w2 ⟨rfl, hr⟩
                have HN := Lib.hid (show ∃ d2, RowAt w2 g 21 [] d2 T ∧ OrdTo ls d2 (if k = i then i + 1 else k) ∧ Below w.heap.size w w2 from by
                  obtain ⟨r2, r3, r4, r5, r6⟩ := hr
                  have hd := HI.out.2.1.run hik (by rw [DL.out ()]; exact hkn) HJ.out.2.2.1 HJ.out.2.2.2 r4 r5
                  have hrow : RowAt w2 g 21 [] (d.take i ++ (r2 ++ d.drop k)) T := by
                    unfold RowAt at r3 ⊢
                    rw [r3]
                    simp
                  have hbl : Below w.heap.size w w2 := HJ.out.2.1.trans ((r6.below (B := w.heap.size) HJ.out.2.1.size (fun b hb => by rw [List.mem_singleton.1 hb]; have := HG.out.2.1; have := HH.out (); omega)))
                  by_cases hki : k = i
                  · rw [if_pos hki]
                    have hkl : k < (d.take i ++ (r2 ++ d.drop k)).length := by
                      rw [hd.len, ← HI.out.2.1.len, DL.out ()]
                      omega
                    have hcl : clsR ((d.take i ++ (r2 ++ d.drop k)).getD k 0) = 0 := by
                      have e1 : ((d.take i ++ (r2 ++ d.drop k)).drop k) = d.drop k := by
                          have h1 := congrArg (List.drop (k - i)) HI.out.2.1.rest
                          rw [List.drop_drop, List.drop_drop, show i + (k - i) = k by omega] at h1
                          rw [hd.rest, h1]
                      have e2 := congrArg (fun l => List.getD l 0 0) e1
                      simp only [List.getD_eq_getElem?_getD, List.getElem?_drop, Nat.add_zero] at e2
                      rw [List.getD_eq_getElem?_getD, e2, ← List.getD_eq_getElem?_getD]
                      exact HJ.out.2.2.2 (by rw [DL.out ()]; omega)
                    have h2 := hd.one hkl hcl
                    rw [hki] at h2 hrow
                    exact ⟨_, hrow, h2, hbl⟩
                  · rw [if_neg hki]
                    exact ⟨_, hrow, hd, hbl⟩)
                clear hr HJ
                have emax : max (i : Int) ((k : Int) - 1) = (((if k = i then i + 1 else k) - 1 : Nat) : Int) := by split <;> omega
                obtain ⟨nx, hnx2⟩ : ∃ nx, nx = (if k = i then i + 1 else k) := ⟨_, rfl⟩
                rw [← hnx2] at emax HN
                have hnx3 : i < nx ∧ nx ≤ n := by split at hnx2 <;> omega
                have enx : ((nx - 1 : Nat) : Int) + 1 = (nx : Int) := by omega
                have HNX := Lib.hid (fun (_ : Unit) => hnx2)
                clear hnx2
                go_wp2_with fail
                go_roundw
                case rel =>
                  obtain ⟨d2, r1, r2, r3⟩ := HN.out
                  exact ⟨nx, d2, hnx3.2, by go_num, Lib.hid ⟨r1, r2, r3⟩⟩
                case measure => simp [intOf]; omega
          · have hin2 : i = n := by omega
            have hlt' : ((i : Int) < (n : Int)) = False := eq_false (by omega)
            have hd : d = ordR ls := HI.out.2.1.done (by rw [DL.out ()]; omega)
            have HD := Lib.hid (fun (_ : Unit) => hd)
            have hcv := run_convert_runes (P := Tryd.prog) wr 46 9 21 ⟨g, 0, none⟩ n cap d (by rw [DL.out ()]; exact Nat.le_refl _) Tryd.underlying46 Tryd.underlying21 Tryd.underlying9 (fun j hj => by
              rw [addr_add]
              have h1 := HI.out.1.cell (getD_at hj)
              rw [List.length_nil, Nat.zero_add] at h1
              exact h1)
            clear hin2 hlt hd
            go_wp2_with fail
            go_ret
            refine Ret.of ?_ HI.out.2.2
            rw [← HTOT.out (), ← HD.out (), List.take_of_length_le (by rw [DL.out ()]; exact Nat.le_refl _)]
            rfl

end Go.Proofs.YtkapmpngglibjaaDoor
