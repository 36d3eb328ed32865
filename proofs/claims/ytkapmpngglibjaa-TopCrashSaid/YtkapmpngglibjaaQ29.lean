/- Several texts in one: what each begins with says what it shows. Conditions: each law's own premises. -/
import Derived.Test.YtkapmpngglibjaaQ28

/- Opening a store. Conditions: the contract's own premises. -/
namespace Go.Proofs.Ytkapmpngglibjaa
open Go Go.RowKit Go.Shelf

/-- The store's struct while it is opened. -/
def Sto0 (w : World) (sb db : Nat) (h : HM) (lv rv : Value) : Prop :=
  w.heap[sb]? = some (.cells #[.pointer (some ⟨db, 0, none⟩), .int .i64 (h.epoch : Int), .int .i64 (h.side : Int), .int .i64 (h.size : Int), .int .i64 (h.first : Int), lv, rv] 145 (0, 0))
theorem Sto0.cells {w : World} {sb db : Nat} {h : HM} {lv rv : Value} (hs : Sto0 w sb db h lv rv) : w.cell? ⟨sb, 0, none⟩ = some (.pointer (some ⟨db, 0, none⟩)) ∧ w.cell? ⟨sb, 1, none⟩ = some (.int .i64 (h.epoch : Int)) ∧ w.cell? ⟨sb, 2, none⟩ = some (.int .i64 (h.side : Int)) ∧
    w.cell? ⟨sb, 3, none⟩ = some (.int .i64 (h.size : Int)) ∧ w.cell? ⟨sb, 4, none⟩ = some (.int .i64 (h.first : Int)) ∧ w.cell? ⟨sb, 5, none⟩ = some lv ∧ w.cell? ⟨sb, 6, none⟩ = some rv :=
  ⟨cell_of hs 0, cell_of hs 1, cell_of hs 2, cell_of hs 3, cell_of hs 4, cell_of hs 5, cell_of hs 6⟩

/-- The scan of a store's log. -/
def slog (D : DM) (first : Nat) : List (List Chg) × Nat := scan first 0 (secs D 90 (D.now.length - 90)) [] [] 0

/-- What opening leaves. -/
def SOpen (w : World) (db : Nat) (D : DM) (rows : List Chg) (v : Value) (w' : World) : Prop :=
  Below w.heap.size w w' ∧
  (((pickN D.now 2).epoch = 0 ∧ v = .tuple #[.pointer none, errV 4]) ∨
   ((pickN D.now 2).epoch ≠ 0 ∧ ∃ sb lb vr, v = .tuple #[.pointer (some ⟨sb, 0, none⟩), .nilIface] ∧ w.heap.size ≤ sb ∧ w.heap.size ≤ lb ∧ StoAt w' sb db lb (pickN D.now 2) vr ∧
      LogAt w' lb db ⟨90, D.now.length - 90, (pickN D.now 2).first, (slog D (pickN D.now 2).first).2⟩ ∧ OwnC w' vr (foldA rows (slog D (pickN D.now 2).first).1) ∧ (∀ k, vr.ownBlock = some k → w.heap.size ≤ k)))

/-- What must be true of the sectors ahead. -/
structure OpenHyp (D : DM) (rows : List Chg) : Prop where
  cat : (catN D.now (2 + (pickN D.now 2).side * 44) 44).extract 0 (pickN D.now 2).size = allB rows
  side : (pickN D.now 2).side ≤ 1
  size : (pickN D.now 2).size ≤ 6160
  good : GoodRows rows
  first : 1 ≤ (pickN D.now 2).first
  first' : (pickN D.now 2).first < 1073741824
  lens : ∀ d ∈ (slog D (pickN D.now 2).first).1, d.length ≤ 200
  most : ∀ k, (foldA rows ((slog D (pickN D.now 2).first).1.take k)).length ≤ 64
  many : (slog D (pickN D.now 2).first).1.length ≤ 200

theorem sopen_small (db : Nat) (X : List Nat) (D : DM) (w : World) (hD : DiskAt w 107 111 db X D) (hd : D.down = false) (hn : D.now.length < 104) : Calls Try.prog 54 #[.pointer (some ⟨db, 0, none⟩)] w (Ret (.tuple #[.pointer none, errV 4]) fun w' => w = w') := by
  have HD := Lib.hid (sectors_any 107 111 db X D w hD)
  have HE := Lib.hid (down_any 107 111 db X D w hD)
  rw [hd] at HE
  have n1 : (D.now.length : Int) < 104 := by omega
  have e9 : errV 4 = .iface 101 (.int .i64 4) := rfl
  go_enter Try.func54, Try.ntmps54
  go_wp2_with (first | (go_at_call 16; refine HD.out.mono ?_; rintro e w' ⟨rfl, rfl⟩) | (go_at_call 26; refine HE.out.mono ?_; rintro e w' ⟨rfl, rfl⟩))
  go_ret2
  exact Ret.of rfl rfl

set_option maxHeartbeats 8000000 in
set_option maxRecDepth 100000 in
theorem sopen_any (db : Nat) (X : List Nat) (D : DM) (rows : List Chg) (w : World) (hD : DiskAt w 107 111 db X D) (hn : 104 ≤ D.now.length) (hz : AllSz D.now) (hd : D.down = false) (hh : (pickN D.now 2).epoch ≠ 0 → OpenHyp D rows) :
    Calls Try.prog 54 #[.pointer (some ⟨db, 0, none⟩)] w (RetV (SOpen w db D rows)) := by
  have HSEC := Lib.hid (sectors_any 107 111 db X D w hD)
  have HDN := Lib.hid (down_any 107 111 db X D w hD)
  rw [hd] at HDN
  have n1 : (104 : Int) ≤ (D.now.length : Int) := by omega
  have HZ := Lib.hid (fun (_ : Unit) => And.intro hn hz)
  have HMX := Lib.hid (fun (_ : Unit) => hD.ok.most)
  have HD := Lib.hid hD
  have HDD := Lib.hid hd
  have HH := Lib.hid hh
  clear hn hz hD hd hh
  go_enter Try.func54, Try.ntmps54
  go_wp2_with (first | (go_at_call 16; refine HSEC.out.mono ?_; rintro e w' ⟨rfl, rfl⟩) | (go_at_call 26; refine HDN.out.mono ?_; rintro e w' ⟨rfl, rfl⟩))
  have hs0 : Sto0 (w.alloc (.cells #[.pointer (some ⟨db, 0, none⟩), .int .i64 0, .int .i64 0, .int .i64 0, .int .i64 0, .pointer none, .slice none 0 0] 145)) w.heap.size db ⟨0, 0, 0, 0⟩ (.pointer none) (.slice none 0 0) := heap_alloc_new _ _
  have HS0 := Lib.hid (And.intro hs0 ((Below.refl w.heap.size w).alloc (Nat.le_refl _) (.cells #[.pointer (some ⟨db, 0, none⟩), .int .i64 0, .int .i64 0, .int .i64 0, .int .i64 0, .pointer none, .slice none 0 0] 145)))
  clear hs0
  go_loopw [30] (fun i wr => ∃ (j : Nat), j ≤ 2 ∧ i = .int .i64 (j : Int) ∧ Hid (Sto0 wr w.heap.size db (pickN D.now j) (.pointer none) (.slice none 0 0) ∧ Below w.heap.size w wr)) (fun i _ => 2 - (intOf i).toNat)
  case atStart => exact ⟨0, by omega, rfl, HS0⟩
  case round =>
    clear HS0
    obtain ⟨j, hj, rfl, HO⟩ := hrel
    have j0 : (0 : Int) ≤ (j : Int) := by omega
    by_cases hlt : j < 2
    · have j1 : ((j : Int) < 2) = True := eq_true (by omega)
      obtain ⟨s, hs⟩ : ∃ s, D.now[j]? = some s := ⟨_, List.getElem?_eq_getElem (by have := (HZ.out ()).1; omega)⟩
      have hss : s.size = 140 := (HZ.out ()).2 s (List.mem_of_getElem? hs)
      have hrd := read_ok db X D j s wr (HD.out.frame (Frame.of_below [] HO.out.2) (by simp)) HDD.out hs
      have hho := headOf_any s wr hss
      have hpk : pickN D.now (j + 1) = if (pickN D.now j).epoch < (headOfM s).epoch then headOfM s else pickN D.now j := by rw [pickN, getD_of hs]
      have HPK := Lib.hid hpk
      generalize pickN D.now j = hd0 at *
      generalize headOfM s = hn0 at *
      obtain ⟨e2, sd2, sz2, ft2⟩ := hd0
      obtain ⟨e3, sd3, sz3, ft3⟩ := hn0
      unfold HM.v at hho
      simp only at hho
      clear hpk hs hss
      go_wp2_with fail
      refine hrd.mono ?_
      clear hrd
      rintro _ w2 ⟨rfl, rfl⟩
      go_wp2_with fail
      refine hho.mono ?_
      clear hho
      rintro _ w3 ⟨rfl, hB3⟩
      have HO3 := Lib.hid (show Sto0 w3 w.heap.size db ⟨e2, sd2, sz2, ft2⟩ (.pointer none) (.slice none 0 0) ∧ Below w.heap.size w w3 ∧ w.heap.size < w3.heap.size from
        ⟨(hB3.block _ (lt_of_heap HO.out.1)).trans HO.out.1, HO.out.2.trans (hB3.mono HO.out.2.size), Nat.lt_of_lt_of_le (lt_of_heap HO.out.1) hB3.size⟩)
      clear hB3
      go_wp2_with fail
      have hblk := heap_alloc_new w3 (.cells #[.int .i64 (e3 : Int), .int .i64 (sd3 : Int), .int .i64 (sz3 : Int), .int .i64 (ft3 : Int)] 143)
      have HBK := Lib.hid hblk
      have HO4 := Lib.hid (show Sto0 (w3.alloc (.cells #[.int .i64 (e3 : Int), .int .i64 (sd3 : Int), .int .i64 (sz3 : Int), .int .i64 (ft3 : Int)] 143)) w.heap.size db ⟨e2, sd2, sz2, ft2⟩ (.pointer none) (.slice none 0 0) ∧ Below w.heap.size w (w3.alloc (.cells #[.int .i64 (e3 : Int), .int .i64 (sd3 : Int), .int .i64 (sz3 : Int), .int .i64 (ft3 : Int)] 143)) from
        ⟨(heap_alloc_old _ _ HO3.out.2.2).trans HO3.out.1, HO3.out.2.1.alloc HO3.out.2.1.size _⟩)
      have HNE := Lib.hid (fun (_ : Unit) => show w.heap.size ≠ w3.heap.size by have := HO3.out.2.2; omega)
      clear hblk HO3 HO
      generalize w3.alloc (.cells #[.int .i64 (e3 : Int), .int .i64 (sd3 : Int), .int .i64 (sz3 : Int), .int .i64 (ft3 : Int)] 143) = w4 at *
      generalize w3.heap.size = hb at *
      refine wp_region_plan (fun w5 => Below w4.heap.size w4 w5) 144 [([0, 2, 1, 3, 4, 5, 6, 7], [], false)] (by kernel_rfl) (by kernel_rfl) ?_
      apply wpStages_last
      case hT => exact (Below.refl _ _).drew
      case hn => exact Nat.le_refl _
      case hq =>
        intro w5 hT
        have c0 := cell_of ((hT.block _ (lt_of_heap HBK.out)).trans HBK.out) 0
        have c1 := cell_of ((hT.block _ (lt_of_heap HO4.out.1)).trans HO4.out.1) 1
        simp only [List.getElem?_toArray, List.getElem?_cons_zero, List.getElem?_cons_succ] at c0 c1
        clear hT
        simp only [picked, List.filterMap_cons, List.filterMap_nil, List.getElem?_cons_zero, List.getElem?_cons_succ]
        repeat still_step
        exact wpStill_nil rfl
      simp only [picked, List.filterMap_nil]
      refine wpList_nil (OnlyNormal.mk ?_)
      by_cases hgt : e2 < e3
      · have hgt' : ((e2 : Int) < (e3 : Int)) = True := eq_true (by omega)
        have HP1 := Lib.hid (show pickN D.now (j + 1) = ⟨e3, sd3, sz3, ft3⟩ from HPK.out.trans (if_pos hgt))
        have b0 := cell_of HBK.out 0
        have b1 := cell_of HBK.out 1
        have b2 := cell_of HBK.out 2
        have b3 := cell_of HBK.out 3
        obtain ⟨s0, s1, s2, s3, s4, s5, s6⟩ := HO4.out.1.cells
        have z1 := frozen_of HO4.out.1
        simp only [List.getElem?_toArray, List.getElem?_cons_zero, List.getElem?_cons_succ] at b0 b1 b2 b3
        go_wp2_with fail
        refine ⟨⟨j + 1, by omega, by go_num, Lib.hid ⟨?_, ?_⟩⟩, by simp [intOf]; omega⟩
        · rw [HP1.out]
          exact heap_set_same 4 _ (heap_set_same 3 _ (heap_set_same 2 _ (heap_set_same 1 _ HO4.out.1)))
        · exact ((((HO4.out.2.setCell (p := ⟨w.heap.size, 1, none⟩) (Nat.le_refl _) _).setCell (p := ⟨w.heap.size, 2, none⟩) (Nat.le_refl _) _).setCell (p := ⟨w.heap.size, 3, none⟩) (Nat.le_refl _) _).setCell (p := ⟨w.heap.size, 4, none⟩) (Nat.le_refl _) _).drew
      · have hgt' : ((e2 : Int) < (e3 : Int)) = False := eq_false (by omega)
        have HP1 := Lib.hid (show pickN D.now (j + 1) = ⟨e2, sd2, sz2, ft2⟩ from HPK.out.trans (if_neg hgt))
        go_wp2_with fail
        exact ⟨⟨j + 1, by omega, by go_num, Lib.hid ⟨by rw [HP1.out]; exact HO4.out.1, HO4.out.2.drew⟩⟩, by simp [intOf]; omega⟩
    · obtain rfl : j = 2 := by omega
      clear hlt
      generalize hpk : pickN D.now 2 = H at *
      have HPK := Lib.hid (fun (_ : Unit) => hpk)
      clear hpk
      obtain ⟨ep, sd, sz, ft⟩ := H
      obtain ⟨s0, s1, s2, s3, s4, s5, s6⟩ := HO.out.1.cells
      simp only at s1 s2 s3 s4
      by_cases h0 : ep = 0
      · have h0' : ((ep : Int) = 0) = True := eq_true (by omega)
        have hb0 : ((ep : Int) == 0) = true := by simpa using h0
        have HE0 := Lib.hid (fun (_ : Unit) => h0)
        clear h0
        go_wp2_with fail
        go_ret2
        exact RetV.of ⟨HO.out.2, .inl ⟨by rw [HPK.out ()]; exact HE0.out (), rfl⟩⟩
      have h0' : ((ep : Int) = 0) = False := eq_false (by omega)
      have hb0 : ((ep : Int) == 0) = false := by simpa using (show ¬ (ep : Int) = 0 by omega)
      have hho := HH.out h0
      have HOH := Lib.hid hho
      have hq := hho.side
      rw [HPK.out ()] at hq
      simp only at hq
      have q0 : (0 : Int) ≤ (sd : Int) := by omega
      have q1 : (sd : Int) ≤ 1 := by omega
      have HE0 := Lib.hid (fun (_ : Unit) => h0)
      have HQ := Lib.hid (fun (_ : Unit) => hq)
      clear hho hq h0
      go_wp2_with fail
      go_loopw [9, 64] (fun t i wr => ∃ (k : Nat), k ≤ 44 ∧ t = .string (catN D.now (2 + sd * 44) k) ∧ i = .int .i64 (k : Int) ∧ Hid (Sto0 wr w.heap.size db ⟨ep, sd, sz, ft⟩ (.pointer none) (.slice none 0 0) ∧ Below w.heap.size w wr)) (fun _ i _ => 44 - (intOf i).toNat)
      case atStart => exact ⟨0, by omega, rfl, rfl, HO⟩
      case round =>
        clear HO s0 s1 s2 s3 s4 s5 s6
        obtain ⟨k, hk, rfl, rfl, HO⟩ := hrel
        have k0 : (0 : Int) ≤ (k : Int) := by omega
        obtain ⟨s0, s1, s2, s3, s4, s5, s6⟩ := HO.out.1.cells
        simp only at s1 s2 s3 s4
        by_cases hlt : k < 44
        · have k1 : ((k : Int) < 44) = True := eq_true (by omega)
          obtain ⟨s, hs⟩ : ∃ s, D.now[2 + sd * 44 + k]? = some s := ⟨_, List.getElem?_eq_getElem (by have := (HZ.out ()).1; have := HQ.out (); omega)⟩
          have hrd := read_ok db X D (2 + sd * 44 + k) s wr (HD.out.frame (Frame.of_below [] HO.out.2) (by simp)) HDD.out hs
          rw [show ((2 + sd * 44 + k : Nat) : Int) = 2 + (sd : Int) * 44 + (k : Int) by omega] at hrd
          have hct : catN D.now (2 + sd * 44) (k + 1) = catN D.now (2 + sd * 44) k ++ s := by rw [catN, getD_of hs]
          have HCT := Lib.hid (fun (_ : Unit) => hct)
          have HRD := Lib.hid hrd
          have x1 : IntKind.i64.wrap ((sd : Int) * 44) = (sd : Int) * 44 := IntWalk.i64_in _ (by omega)
          have x2 : IntKind.i64.wrap (2 + (sd : Int) * 44) = 2 + (sd : Int) * 44 := IntWalk.i64_in _ (by omega)
          have x3 : IntKind.i64.wrap (2 + (sd : Int) * 44 + (k : Int)) = 2 + (sd : Int) * 44 + (k : Int) := IntWalk.i64_in _ (by omega)
          have hts : (catN D.now (2 + sd * 44) k).size + s.size ≤ 6300 := by
            rw [catN_size D.now _ (HZ.out ()).2 k (by have := (HZ.out ()).1; have := HQ.out (); omega), (HZ.out ()).2 s (List.mem_of_getElem? hs)]
            omega
          generalize catN D.now (2 + sd * 44) k = tc at *
          clear hct hs hrd
          go_wp2_with fail
          refine HRD.out.mono ?_
          clear HRD
          rintro _ w2 ⟨rfl, rfl⟩
          go_wp2_with fail
          refine ⟨⟨k + 1, by omega, ?_, by go_num, HO⟩, by simp [intOf]; omega⟩
          rw [HCT.out ()]
        · obtain rfl : k = 44 := by omega
          clear hlt
          obtain ⟨o1, o2, o3, o4, o5, o6, o7, o8, o9⟩ := HOH.out
          rw [HPK.out ()] at o1 o3 o5 o6 o7 o8 o9
          simp only at o1 o3 o5 o6 o7 o8 o9
          have htz : (catN D.now (2 + sd * 44) 44).size = 6160 := catN_size D.now _ (HZ.out ()).2 44 (by have := (HZ.out ()).1; have := HQ.out (); omega)
          have hsl : sz ≤ (catN D.now (2 + sd * 44) 44).size := by omega
          have hpa := parseAll_good rows o4 wr
          rw [← o1] at hpa
          have z0 : (0 : Int) ≤ (sz : Int) := by omega
          have z1 : (sz : Int) ≤ ((catN D.now (2 + sd * 44) 44).size : Int) := by omega
          have HPA := Lib.hid hpa
          have HO7 := Lib.hid (And.intro o4 (And.intro o7 (And.intro o8 o9)))
          have HF6 := Lib.hid (fun (_ : Unit) => And.intro o5 o6)
          generalize catN D.now (2 + sd * 44) 44 = tc at *
          clear o1 o2 o3 o4 o5 o6 o7 o8 o9 hpa htz
          go_wp2_with fail
          refine HPA.out.mono ?_
          clear HPA
          rintro _ w5 ⟨v5, rfl, vr, rfl, ho5, hb5, hB5⟩
          obtain ⟨ao5, cap5, rfl⟩ := owns_form ho5
          have HR5 := Lib.hid (show OwnC w5 (.slice ao5 rows.length cap5) rows ∧ (∀ k, (Value.slice ao5 rows.length cap5).ownBlock = some k → w.heap.size + 1 ≤ k ∧ k < w5.heap.size) from
            ⟨ho5, fun k hk => ⟨Nat.le_trans (lt_of_heap HO.out.1) (hb5 k hk), by obtain ⟨cur, hc⟩ := owns_lt ho5 hk; exact lt_of_heap hc⟩⟩)
          have HO5 := Lib.hid (show Sto0 w5 w.heap.size db ⟨ep, sd, sz, ft⟩ (.pointer none) (.slice none 0 0) ∧ Below w.heap.size w w5 from ⟨(hB5.block _ (lt_of_heap HO.out.1)).trans HO.out.1, HO.out.2.trans (hB5.mono HO.out.2.size)⟩)
          clear ho5 hb5 hB5 HO s0 s1 s2 s3 s4 s5 s6 z0 z1 hsl
          obtain ⟨nr, hnr⟩ : ∃ n, n = rows.length := ⟨_, rfl⟩
          have HNR := Lib.hid (fun (_ : Unit) => hnr)
          rw [← hnr] at HR5 ⊢
          clear hnr
          go_wp2_with fail
          refine wp_region_plan (fun w8 => Below w5.heap.size w5 w8) 144 [([0, 1, 4, 5, 6, 7, 8], [2], true), ([3], [9], true), ([10, 11, 12, 13, 14, 15, 16], [], false)] (by kernel_rfl) (by kernel_rfl) ?_
          apply wpStages_keep
          case hT => exact (Below.refl _ _).drew
          case hn => exact Nat.le_refl _
          case hq =>
            intro w8 hT
            have c4 := cell_of ((hT.block _ (lt_of_heap HO5.out.1)).trans HO5.out.1) 4
            simp only [List.getElem?_toArray, List.getElem?_cons_zero, List.getElem?_cons_succ] at c4
            clear hT
            simp only [picked, List.filterMap_cons, List.filterMap_nil, List.getElem?_cons_zero, List.getElem?_cons_succ]
            repeat still_step
            exact wpStill_nil rfl
          simp only [picked, List.filterMap_cons, List.filterMap_nil, List.getElem?_cons_zero, List.getElem?_cons_succ]
          have hD5 : DiskAt w5.drew 107 111 db X D := (HD.out.frame (Frame.of_below [] HO5.out.2) (by simp)).drew
          obtain ⟨n, hnn⟩ : ∃ n, n = D.now.length := ⟨_, rfl⟩
          have hse := sectors_any 107 111 db X D w5.drew hD5
          rw [← hnn] at hse
          have HSE := Lib.hid hse
          have HD5 := Lib.hid hD5
          have HN := Lib.hid (fun (_ : Unit) => And.intro hnn (show 104 ≤ n ∧ n ≤ 130 from ⟨by have := (HZ.out ()).1; omega, by have := HMX.out (); omega⟩))
          have hsub : IntKind.i64.wrap ((n : Int) - 90) = ((n - 90 : Nat) : Int) := by
            have := HN.out ()
            rw [show (n : Int) - 90 = ((n - 90 : Nat) : Int) by omega]
            exact IntWalk.i64_in _ (by omega)
          obtain ⟨n90, hn90⟩ : ∃ n90, n90 = n - 90 := ⟨_, rfl⟩
          rw [← hn90] at hsub
          have HN90 := Lib.hid (fun (_ : Unit) => hn90)
          clear hse hD5 hnn hn90
          go_wp2_with fail
          refine HSE.out.mono ?_
          clear HSE
          rintro _ w6 ⟨rfl, rfl⟩
          go_wp2_with fail
          refine OnlyNormal.mk ⟨(Below.refl _ _).drew, ?_⟩
          apply wpStages_keep
          case hT => exact (Below.refl _ _).drew
          case hn => exact Nat.le_refl _
          case hq =>
            intro w8 hT
            simp only [picked, List.filterMap_cons, List.filterMap_nil, List.getElem?_cons_zero, List.getElem?_cons_succ]
            repeat still_step
            exact wpStill_nil rfl
          simp only [picked, List.filterMap_cons, List.filterMap_nil, List.getElem?_cons_zero, List.getElem?_cons_succ]
          clear hsub
          have hop := open_any db X D 90 n90 ft w5.drew HD5.out (by have := HN.out (); have := HN90.out (); omega) (by have := HN.out (); have := HN90.out (); omega) (HF6.out ()).1 HDD.out (HZ.out ()).2 (HF6.out ()).2
          have HOP := Lib.hid hop
          clear hop
          go_wp2_with fail
          refine HOP.out.mono ?_
          clear HOP
          rintro _ w7 ⟨_, rfl, lb, vd, rfl, hlb, hlog, hdeeds, hB7⟩
          obtain ⟨sc, hsc⟩ : ∃ sc, sc = slog D ft := ⟨_, rfl⟩
          have e : scan ft 0 (secs D 90 n90) [] [] 0 = sc := by rw [hsc, slog, HN90.out (), ← (HN.out ()).1]
          rw [e] at hlog hdeeds
          have HSC := Lib.hid (fun (_ : Unit) => hsc)
          have HO8 := HO7.out
          rw [← hsc] at HO8
          have HO9 := Lib.hid HO8
          clear HO7 HO8 hsc e
          obtain ⟨ds, nx⟩ := sc
          simp only at hlog hdeeds
          obtain ⟨aod, capd, rfl, -⟩ := hdeeds.form
          obtain ⟨nd, hnd⟩ : ∃ n, n = ds.length := ⟨_, rfl⟩
          have HND := Lib.hid (fun (_ : Unit) => And.intro hnd (show nd ≤ 200 by rw [hnd]; exact HO9.out.2.2.2))
          rw [← hnd] at hdeeds ⊢
          have hB57 : Below w5.heap.size w5 w7 := ((Below.refl _ w5).drew).trans hB7
          have HB7 := Lib.hid (show Below w.heap.size w w7 ∧ Below w5.heap.size w5 w7 from ⟨HO5.out.2.trans (hB57.mono HO5.out.2.size), hB57⟩)
          have HS7 := Lib.hid (show Sto0 w7 w.heap.size db ⟨ep, sd, sz, ft⟩ (.pointer none) (.slice none 0 0) from (hB57.block _ (lt_of_heap HO5.out.1)).trans HO5.out.1)
          have HR7 := Lib.hid (show OwnC w7 (.slice ao5 nr cap5) rows ∧ (∀ k, (Value.slice ao5 nr cap5).ownBlock = some k → w.heap.size + 1 ≤ k) from ⟨HR5.out.1.frame (Frame.of_below [] hB57) (by simp), fun k hk => (HR5.out.2 k hk).1⟩)
          have HL7 := Lib.hid (show LogAt w7 lb db ⟨90, n90, ft, nx⟩ ∧ w.heap.size < lb from ⟨hlog, Nat.lt_of_lt_of_le (lt_of_heap HO5.out.1) hlb⟩)
          have HDS := Lib.hid hdeeds
          clear hnd hlog hdeeds hB57 hlb hB7 HR5 HO5
          go_wp2_with fail
          refine OnlyNormal.mk ⟨HB7.out.2, ?_⟩
          apply wpStages_last
          case hT => exact HB7.out.2
          case hn => exact Nat.le_refl _
          case hq =>
            intro w8 hT
            simp only [picked, List.filterMap_cons, List.filterMap_nil, List.getElem?_cons_zero, List.getElem?_cons_succ]
            repeat still_step
            exact wpStill_nil rfl
          simp only [picked, List.filterMap_nil]
          refine wpList_nil (OnlyNormal.mk ?_)
          obtain ⟨s0, s1, s2, s3, s4, s5, s6⟩ := HS7.out.cells
          have zz := frozen_of HS7.out
          have nd0 : (0 : Int) ≤ (nd : Int) := by omega
          have nd1 : (nd : Int) ≤ 200 := by have := HND.out (); omega
          go_wp2_with fail
          have hst9 : StoAt ((w7.setCell ⟨w.heap.size, 5, none⟩ (.pointer (some ⟨lb, 0, none⟩))).setCell ⟨w.heap.size, 6, none⟩ (.slice ao5 nr cap5)) w.heap.size db lb ⟨ep, sd, sz, ft⟩ (.slice ao5 nr cap5) :=
            heap_set_same 6 _ (heap_set_same 5 _ HS7.out)
          have hF9 : Frame [w.heap.size] w7 ((w7.setCell ⟨w.heap.size, 5, none⟩ (.pointer (some ⟨lb, 0, none⟩))).setCell ⟨w.heap.size, 6, none⟩ (.slice ao5 nr cap5)) :=
            ((Frame.refl [w.heap.size] w7).set (p := ⟨w.heap.size, 5, none⟩) (.inl (by simp)) _).set (p := ⟨w.heap.size, 6, none⟩) (.inl (by simp)) _
          have HI := Lib.hid (show ∃ vr, StoAt ((w7.setCell ⟨w.heap.size, 5, none⟩ (.pointer (some ⟨lb, 0, none⟩))).setCell ⟨w.heap.size, 6, none⟩ (.slice ao5 nr cap5)) w.heap.size db lb ⟨ep, sd, sz, ft⟩ vr ∧
              OwnC ((w7.setCell ⟨w.heap.size, 5, none⟩ (.pointer (some ⟨lb, 0, none⟩))).setCell ⟨w.heap.size, 6, none⟩ (.slice ao5 nr cap5)) vr (foldA rows (ds.take 0)) ∧ (∀ k, vr.ownBlock = some k → w.heap.size + 1 ≤ k) ∧
              Below w.heap.size w ((w7.setCell ⟨w.heap.size, 5, none⟩ (.pointer (some ⟨lb, 0, none⟩))).setCell ⟨w.heap.size, 6, none⟩ (.slice ao5 nr cap5)) ∧
              LogAt ((w7.setCell ⟨w.heap.size, 5, none⟩ (.pointer (some ⟨lb, 0, none⟩))).setCell ⟨w.heap.size, 6, none⟩ (.slice ao5 nr cap5)) lb db ⟨90, n90, ft, nx⟩ ∧
              DeedsP (fun k => lb < k) ((w7.setCell ⟨w.heap.size, 5, none⟩ (.pointer (some ⟨lb, 0, none⟩))).setCell ⟨w.heap.size, 6, none⟩ (.slice ao5 nr cap5)) (.slice aod nd capd) ds from
            ⟨_, hst9, HR7.out.1.frame hF9 (fun b hb hm => by have := HR7.out.2 b hb; rw [List.mem_singleton.1 hm] at this; omega), HR7.out.2, HB7.out.1.trans (hF9.below HB7.out.1.size (fun b hb => by rw [List.mem_singleton.1 hb]; exact Nat.le_refl _)),
              hF9.heap HL7.out.1 (fun hm => by have := HL7.out.2; rw [List.mem_singleton.1 hm] at this; omega), HDS.out.frame hF9 (fun b hb hm => by have := HL7.out.2; rw [List.mem_singleton.1 hm] at hb; omega)⟩)
          have HLB := Lib.hid (fun (_ : Unit) => HL7.out.2)
          generalize (w7.setCell ⟨w.heap.size, 5, none⟩ (.pointer (some ⟨lb, 0, none⟩))).setCell ⟨w.heap.size, 6, none⟩ (.slice ao5 nr cap5) = w9 at *
          clear hst9 hF9 HS7 HR7 HB7 HL7 HDS s0 s1 s2 s3 s4 s5 s6 zz
          go_loopw [129] (fun i wr => ∃ (k : Nat), k ≤ nd ∧ i = .int .i64 (k : Int) ∧ Hid (∃ vr, StoAt wr w.heap.size db lb ⟨ep, sd, sz, ft⟩ vr ∧ OwnC wr vr (foldA rows (ds.take k)) ∧ (∀ k, vr.ownBlock = some k → w.heap.size + 1 ≤ k) ∧
              Below w.heap.size w wr ∧ LogAt wr lb db ⟨90, n90, ft, nx⟩ ∧ DeedsP (fun k => lb < k) wr (.slice aod nd capd) ds)) (fun i _ => nd - (intOf i).toNat)
          case atStart => exact ⟨0, Nat.zero_le _, rfl, HI⟩
          case round =>
            clear HI
            obtain ⟨k, hk, rfl, HI⟩ := hrel
            have k0 : (0 : Int) ≤ (k : Int) := by omega
            obtain ⟨vr, i1, i2, i3, i4, i5, i6⟩ := HI.out
            have HJ := Lib.hid (And.intro i1 (And.intro i2 (And.intro i3 (And.intro i4 (And.intro i5 i6)))))
            by_cases hlt : k < nd
            · have k1 : (k : Int) < (nd : Int) := by omega
              obtain ⟨d, hd⟩ : ∃ d, ds[k]? = some d := ⟨_, List.getElem?_eq_getElem (by have := (HND.out ()).1; omega)⟩
              obtain ⟨bd, off, u, rfl, -, hcd, hgd⟩ := i6.elem k d hd
              obtain ⟨s0, s1, s2, s3, s4, s5, s6⟩ := i1.cells
              have zz := frozen_of i1
              have hrs : Rising (foldA rows (ds.take k)) := foldA_rising _ _ HO9.out.1.rise
              have hml := HO9.out.2.2.1 k
              have hdl := HO9.out.2.1 d (List.mem_of_getElem? hd)
              have hap := apply_any vr u (foldA rows (ds.take k)) d wr i2.at hgd.at hrs (by omega)
              have HAP := Lib.hid hap
              have HT := Lib.hid (fun (_ : Unit) => foldA_take rows ds k d hd)
              clear hd hgd hrs hml hdl hap i1 i2 i3 i4 i5 i6
              go_wp2_with fail
              refine HAP.out.mono ?_
              clear HAP
              rintro _ w10 ⟨v8, rfl, ho8, hb8, hB8⟩
              obtain ⟨ao8, cap8, rfl⟩ := owns_form ho8
              obtain ⟨r8, hr8⟩ : ∃ r8, r8 = (applyL (foldA rows (ds.take k)) d).length := ⟨_, rfl⟩
              obtain ⟨j1, j2, j3, j4, j5, j6⟩ := HJ.out
              have hwr : w.heap.size < wr.heap.size := lt_of_heap j1
              have hst10 : StoAt w10 w.heap.size db lb ⟨ep, sd, sz, ft⟩ vr := (hB8.block _ hwr).trans j1
              rw [← hr8]
              have hfs : Frame [w.heap.size] w10 (w10.setCell ⟨w.heap.size, 6, none⟩ (.slice ao8 r8 cap8)) := (Frame.refl [w.heap.size] w10).set (p := ⟨w.heap.size, 6, none⟩) (.inl (by simp)) _
              have HJ2 := Lib.hid (show ∃ vr, StoAt (w10.setCell ⟨w.heap.size, 6, none⟩ (.slice ao8 r8 cap8)) w.heap.size db lb ⟨ep, sd, sz, ft⟩ vr ∧ OwnC (w10.setCell ⟨w.heap.size, 6, none⟩ (.slice ao8 r8 cap8)) vr (foldA rows (ds.take (k + 1))) ∧ (∀ k, vr.ownBlock = some k → w.heap.size + 1 ≤ k) ∧
                Below w.heap.size w (w10.setCell ⟨w.heap.size, 6, none⟩ (.slice ao8 r8 cap8)) ∧ LogAt (w10.setCell ⟨w.heap.size, 6, none⟩ (.slice ao8 r8 cap8)) lb db ⟨90, n90, ft, nx⟩ ∧ DeedsP (fun k => lb < k) (w10.setCell ⟨w.heap.size, 6, none⟩ (.slice ao8 r8 cap8)) (.slice (some ⟨bd, off, none⟩) nd capd) ds from
                ⟨.slice ao8 r8 cap8, heap_set_same 6 _ hst10, by rw [HT.out (), hr8] at *; exact ho8.frame hfs (fun b hb hm => by have := hb8 b hb; rw [List.mem_singleton.1 hm] at this; omega), fun b hb => by rw [hr8] at hb; have := hb8 b hb; omega,
                  (j4.trans (hB8.mono j4.size)).setCell (p := ⟨w.heap.size, 6, none⟩) (Nat.le_refl _) _, hfs.heap ((hB8.block _ (lt_of_heap j5)).trans j5) (fun hm => by have := HLB.out (); rw [List.mem_singleton.1 hm] at this; omega),
                  (j6.later hB8).frame hfs (fun b hb hm => by have := HLB.out (); rw [List.mem_singleton.1 hm] at hb; omega)⟩)
              obtain ⟨s0, s1, s2, s3, s4, s5, s6⟩ := hst10.cells
              have zz := frozen_of hst10
              clear ho8 hb8 hB8 hr8 hwr hst10 hfs j1 j2 j3 j4 j5 j6 hcd
              go_wp2_with fail
              exact ⟨⟨k + 1, by omega, by go_num, HJ2⟩, by simp [intOf]; omega⟩
            · obtain rfl : k = nd := by omega
              clear hlt i1 i2 i3 i4 i5 i6
              go_wp2_with fail
              go_ret2
              obtain ⟨j1, j2, j3, j4, j5, j6⟩ := HJ.out
              have hT : ds.take k = ds := List.take_of_length_le (by have := (HND.out ()).1; omega)
              rw [hT] at j2
              have hs := HSC.out ()
              have hn1 := (HN.out ()).1
              have hn2 := HN90.out ()
              refine RetV.of ⟨j4, .inr ?_⟩
              rw [HPK.out ()]
              simp only
              rw [← hs, ← hn1, ← hn2]
              exact ⟨HE0.out (), _, lb, vr, rfl, Nat.le_refl _, Nat.le_of_lt (HLB.out ()), j1, j5, j2, fun b hb => by have := j3 b hb; omega⟩

end Go.Proofs.Ytkapmpngglibjaa

/- A store's sectors through a deed and a checkpoint, and what is there behind a fall: plain. Conditions: each law's own premises. -/
namespace Go.Proofs.Ytkapmpngglibjaa
open Go Go.RowKit

/-! ### a deed -/

/-- Some of a deed is laid, or all of it. -/
def laidAt (L : LM) (l : List Chg) (S : List ByteArray) (k : Nat) (s : ByteArray) : Prop :=
  S[k]? = some s ∨ (∃ j c, l[j]? = some c ∧ k = L.from_ + L.next + j ∧ s = opT L j c) ∨ (k = L.from_ + L.next + l.length ∧ s = clT L l.length) ∨ (L.from_ ≤ k ∧ s = blankT)

theorem Half.laid {L : LM} {l : List Chg} {S S' : List ByteArray} (h : Half L l S S') : ∀ k s, S'[k]? = some s → laidAt L l S k s := fun k s hs => by
  rcases h.all k s hs with g | g | ⟨g1, g2, g3⟩
  · exact .inl g
  · exact .inr (.inl g)
  · exact .inr (.inr (.inr ⟨by omega, g3⟩))

theorem Full.laid {L : LM} {l : List Chg} {S S' : List ByteArray} (h : Full L l S S') : ∀ k s, S'[k]? = some s → laidAt L l S k s := fun k s hs => by
  by_cases h1 : k < L.from_ + L.next
  · exact .inl (by rw [← h.old k (.inl h1)]; exact hs)
  by_cases h2 : k < L.from_ + L.next + l.length
  · have hc := List.getElem?_eq_getElem (show k - (L.from_ + L.next) < l.length by omega)
    refine .inr (.inl ⟨_, _, hc, by omega, ?_⟩)
    have := h.op _ _ hc
    rw [show L.from_ + L.next + (k - (L.from_ + L.next)) = k by omega, hs] at this
    cases this
    rfl
  by_cases h3 : k = L.from_ + L.next + l.length
  · have := h.cl
    rw [← h3, hs] at this
    cases this
    exact .inr (.inr (.inl ⟨h3, rfl⟩))
  by_cases h4 : k = L.from_ + L.next + l.length + 1 ∧ L.next + l.length + 1 < L.many
  · have := h.bl h4.2
    rw [← h4.1, hs] at this
    cases this
    exact .inr (.inr (.inr ⟨by omega, rfl⟩))
  · exact .inl (by rw [← h.old k (by omega)]; exact hs)

/-- A deed on the log keeps what the sectors say of the head and the rows. -/
theorem StoS.deed {S S' : List ByteArray} {n : Nat} {H : HM} {rows : List Chg} {L : LM} {l : List Chg} (h : StoS S n H rows) (hf : L.from_ = 90) (hm : L.many = n - 90) (hh : L.first = H.first) (hr : L.next + l.length + 1 ≤ L.many) (hb : H.first + (n - 90) < 2147483648)
    (hl : S'.length = S.length) (hz : AllSz S') (ha : ∀ k s, S'[k]? = some s → laidAt L l S k s) : StoS S' n H rows := by
  have n1 := h.n1
  have ho := h.first
  refine h.logged hl hz (fun k hk => ?_) (fun j s m hj hs hm1 hm2 => ?_)
  · have hlt : k < S'.length := by rw [hl, h.len]; omega
    rcases ha k _ (List.getElem?_eq_getElem hlt) with g | ⟨j, c, g1, g2, g3⟩ | ⟨g1, g2⟩ | ⟨g1, g2⟩
    · rw [g, List.getElem?_eq_getElem hlt]
    · omega
    · omega
    · omega
  · rcases ha _ s hs with g | ⟨i, c, g1, g2, rfl⟩ | ⟨g1, rfl⟩ | ⟨g1, rfl⟩
    · exact h.old j s m hj g hm1 hm2
    · have hi := (List.getElem?_eq_some_iff.1 g1).1
      exact look_other _ _ _ _ (by omega) hm2 (by omega)
    · exact look_other _ _ _ _ (by omega) hm2 (by omega)
    · exact look_blank m (by omega) hm2

/-! ### a checkpoint -/

theorem ckWrites_run (at_ : Nat) (t : ByteArray) : ∀ (ks : List Nat) (i : Nat) (D : DM), at_ + i + ks.length ≤ D.now.length →
    ((ckWrites at_ t D i ks).1 = 0 ∨ (ckWrites at_ t D i ks).1 = 10) ∧ (ckWrites at_ t D i ks).2.kept = D.kept ∧
    (∃ ws, (ckWrites at_ t D i ks).2.wait = D.wait ++ ws ∧ ∀ x ∈ ws, at_ + i ≤ x.1 ∧ x.1 < at_ + i + ks.length ∧ x.2.size = 140) ∧
    ((ckWrites at_ t D i ks).1 = 0 → (∀ (j k : Nat), ks[j]? = some k → (ckWrites at_ t D i ks).2.now[at_ + i + j]? = some (padTo 140 (chunkB t k))) ∧
      ∀ p, (p < at_ + i ∨ at_ + i + ks.length ≤ p) → (ckWrites at_ t D i ks).2.now[p]? = D.now[p]?)
  | [], i, D, _ => by
    unfold ckWrites
    exact ⟨.inl rfl, rfl, ⟨[], by simp, by simp⟩, fun _ => ⟨by simp, fun _ _ => rfl⟩⟩
  | k :: ks, i, D, h => by
    simp only [List.length_cons] at h
    have hw := write_cases D (at_ + i) (chunkB t k) (by omega) (chunkB_size t k)
    unfold ckWrites
    rcases hw with ⟨w0, w1, w2, w3, w4⟩ | ⟨w0, w1, w2, w3⟩
    · rw [if_pos w0]
      have ih := ckWrites_run at_ t ks (i + 1) (D.write ((at_ + i : Nat) : Int) (chunkB t k)).2 (by rw [w2, List.length_set]; omega)
      generalize D.write ((at_ + i : Nat) : Int) (chunkB t k) = E1 at *
      obtain ⟨i1, i2, ⟨ws, i4, i5⟩, i6⟩ := ih
      refine ⟨i1, i2.trans w1, ⟨(at_ + i, padTo 140 (chunkB t k)) :: ws, by rw [i4, w3]; simp, ?_⟩, fun h0 => ?_⟩
      · intro x hx
        rcases List.mem_cons.1 hx with rfl | hx
        · exact ⟨Nat.le_refl _, by simp only [List.length_cons]; omega, padTo_size _ (chunkB_size t k)⟩
        · obtain ⟨a, b, c⟩ := i5 x hx
          exact ⟨by omega, by simp only [List.length_cons]; omega, c⟩
      · obtain ⟨g1, g2⟩ := i6 h0
        constructor
        · intro j x hx
          cases j with
          | zero =>
            simp at hx
            subst hx
            rw [g2 _ (.inl (by omega)), w2, Nat.add_zero, List.getElem?_set_self (by omega)]
          | succ j =>
            have := g1 j x (by simpa using hx)
            rw [show at_ + (i + 1) + j = at_ + i + (j + 1) by omega] at this
            exact this
        · intro p hp
          simp only [List.length_cons] at hp
          rw [g2 p (by omega), w2, List.getElem?_set_ne (by omega)]
    · rw [if_neg (by omega)]
      exact ⟨.inr w0, w1, ⟨[], by rw [w3]; simp, by simp⟩, fun h0 => by omega⟩

theorem ckWrites_up (at_ : Nat) (t : ByteArray) : ∀ (ks : List Nat) (i : Nat) (D : DM), D.Ready → at_ + i + ks.length ≤ D.now.length → (ckWrites at_ t D i ks).1 = 0 ∧ (ckWrites at_ t D i ks).2.Ready
  | [], i, D, h, _ => ⟨rfl, h⟩
  | k :: ks, i, D, h, hl => by
    simp only [List.length_cons] at hl
    obtain ⟨h1, h2⟩ := write_up h (at_ + i) (chunkB t k) (by omega) (chunkB_size t k)
    unfold ckWrites
    rw [if_pos h1]
    exact ckWrites_up at_ t ks (i + 1) _ h2 (by rw [DM.wr_len]; omega)

/-- Only the other half has changed. -/
structure CkOld (S S' : List ByteArray) (at_ : Nat) : Prop where
  len : S'.length = S.length
  all : ∀ k s, S'[k]? = some s → S[k]? = some s ∨ (at_ ≤ k ∧ k < at_ + 44 ∧ s.size = 140)
/-- All is laid. -/
structure CkNew (S S' : List ByteArray) (h : HM) (t : ByteArray) : Prop where
  len : S'.length = S.length
  head : S'[h.epoch % 2]? = some (padTo 140 (headB h))
  half : ∀ i, i < chunks t.size → S'[2 + h.side * 44 + i]? = some (padTo 140 (chunkB t i))
  rest : ∀ k, k ≠ h.epoch % 2 → (k < 2 + h.side * 44 ∨ 2 + h.side * 44 + chunks t.size ≤ k) → S'[k]? = S[k]?

theorem range_get (n j k : Nat) (h : (List.range n)[j]? = some k) : k = j ∧ j < n := by
  obtain ⟨h1, h2⟩ := List.getElem?_eq_some_iff.1 h
  simp at h1 h2
  exact ⟨h2.symm, h1⟩

theorem CkNew.of {S E : List ByteArray} {h : HM} {t : ByteArray} (hl : E.length = S.length) (hs : h.side ≤ 1) (hn : 104 ≤ S.length)
    (h1 : ∀ (j k : Nat), (List.range (chunks t.size))[j]? = some k → E[2 + h.side * 44 + 0 + j]? = some (padTo 140 (chunkB t k)))
    (h2 : ∀ p, (p < 2 + h.side * 44 + 0 ∨ 2 + h.side * 44 + 0 + (List.range (chunks t.size)).length ≤ p) → E[p]? = S[p]?) : CkNew S (E.set (h.epoch % 2) (padTo 140 (headB h))) h t := by
  have hm : h.epoch % 2 < 2 := Nat.mod_lt _ (by decide)
  refine ⟨by rw [List.length_set, hl], List.getElem?_set_self (by omega), fun i hi => ?_, fun k hk hr => ?_⟩
  · rw [List.getElem?_set_ne (by omega)]
    exact h1 i i (by rw [List.getElem?_range hi])
  · rw [List.getElem?_set_ne (fun e => hk e.symm)]
    exact h2 k (by simpa using hr)

theorem ckD_cases (D : DM) (h : HM) (t : ByteArray) (hk : D.kept = D.now) (hw : D.wait = []) (hs : h.side ≤ 1) (hn : 104 ≤ D.now.length) (ht : t.size ≤ 6160) :
    ((ckD D h t).1 = 0 ∧ (ckD D h t).2.kept = (ckD D h t).2.now ∧ (ckD D h t).2.wait = [] ∧ (ckD D h t).2.down = false ∧ CkNew D.now (ckD D h t).2.now h t) ∨
    ((ckD D h t).1 = 10 ∧ ∀ keep, CkOld D.now ((ckD D h t).2.restart keep).now (2 + h.side * 44) ∨ CkNew D.now ((ckD D h t).2.restart keep).now h t) := by
  have hch : chunks t.size ≤ 44 := by unfold chunks; omega
  obtain ⟨r1, r2, ⟨ws, r4, r5⟩, r6⟩ := ckWrites_run (2 + h.side * 44) t (List.range (chunks t.size)) 0 D (by rw [List.length_range]; omega)
  have r3 := (ckWrites_len (2 + h.side * 44) t (List.range (chunks t.size)) 0 D).1
  have hsl : h.epoch % 2 < 2 := Nat.mod_lt _ (by decide)
  rw [hw, List.nil_append] at r4
  rw [List.length_range] at r5
  unfold ckD
  generalize ckWrites (2 + h.side * 44) t D 0 (List.range (chunks t.size)) = R at *
  have oldW : ∀ (E : DM), E.kept = D.now → E.wait = ws → ∀ keep, CkOld D.now (E.restart keep).now (2 + h.side * 44) := fun E e1 e2 keep => by
    rw [(restart_now E keep).1]
    refine ⟨by rw [keepFrom_length, e1], fun k s hs => ?_⟩
    exact keepFrom_all (fun k s => D.now[k]? = some s ∨ (2 + h.side * 44 ≤ k ∧ k < 2 + h.side * 44 + 44 ∧ s.size = 140)) keep E.wait 0 E.kept (fun k s hs => .inl (by rw [← e1]; exact hs)) (fun x hx => by
      rw [e2] at hx
      obtain ⟨a, b, c⟩ := r5 x hx
      exact .inr ⟨by omega, by omega, c⟩) k s hs
  by_cases h0 : R.1 = 0
  case neg =>
    rw [if_neg h0]
    exact .inr ⟨r1.resolve_left h0, fun keep => .inl (oldW _ (r2.trans hk) r4 keep)⟩
  rw [if_pos h0]
  obtain ⟨g1, g2⟩ := r6 h0
  have oldR : CkOld D.now R.2.now (2 + h.side * 44) := ⟨r3, fun k s hs => by
    by_cases ha : 2 + h.side * 44 ≤ k ∧ k < 2 + h.side * 44 + chunks t.size
    · have := g1 (k - (2 + h.side * 44)) (k - (2 + h.side * 44)) (by rw [List.getElem?_range (by omega)])
      rw [show 2 + h.side * 44 + 0 + (k - (2 + h.side * 44)) = k by omega, hs] at this
      cases this
      exact .inr ⟨ha.1, by omega, padTo_size _ (chunkB_size _ _)⟩
    · exact .inl (by rw [← g2 k (by rw [List.length_range]; omega)]; exact hs)⟩
  have newR : CkNew D.now (R.2.now.set (h.epoch % 2) (padTo 140 (headB h))) h t := CkNew.of r3 hs hn g1 g2
  rcases flush_cases R.2 with ⟨f1, f2, f3, f4, f5⟩ | ⟨f1, f2, f3, f4⟩
  case inr =>
    rw [if_neg (by omega)]
    exact .inr ⟨f1, fun keep => .inl (oldW _ (f2.trans (r2.trans hk)) (f4.trans r4) keep)⟩
  rw [if_pos f1]
  have hpos : h.epoch % 2 < R.2.flush.2.now.length := by rw [f3, r3]; omega
  rcases write_cases R.2.flush.2 (h.epoch % 2) (headB h) hpos (by rw [headB_size]; decide) with ⟨w0, w1, w2, w3, w4⟩ | ⟨w0, w1, w2, w3⟩
  case inr =>
    rw [if_neg (by omega)]
    refine .inr ⟨w0, fun keep => .inl ?_⟩
    have e : ((R.2.flush.2.write ((h.epoch % 2 : Nat) : Int) (headB h)).2.restart keep).now = R.2.now := by
      rw [(restart_now _ keep).1, w3, f4, w1, f2]
      rfl
    rw [e]
    exact oldR
  rw [if_pos w0]
  generalize R.2.flush.2.write ((h.epoch % 2 : Nat) : Int) (headB h) = V at *
  rcases flush_cases V.2 with ⟨v1, v2, v3, v4, v5⟩ | ⟨v1, v2, v3, v4⟩
  · exact .inl ⟨v1, v2.trans v3.symm, v4, v5, by rw [v3, w2, f3]; exact newR⟩
  · refine .inr ⟨v1, fun keep => ?_⟩
    have e : (V.2.flush.2.restart keep).now = if keep.testBit 0 then R.2.now.set (h.epoch % 2) (padTo 140 (headB h)) else R.2.now := by
      rw [(restart_now _ keep).1, v4, w3, f4, v2, w1, f2]
      rfl
    rw [e]
    split
    · exact .inr newR
    · exact .inl oldR

theorem ckD_up (D : DM) (h : HM) (t : ByteArray) (hu : D.Ready) (hs : h.side ≤ 1) (hn : 104 ≤ D.now.length) (ht : t.size ≤ 6160) : (ckD D h t).1 = 0 ∧ (ckD D h t).2.Ready := by
  have hch : chunks t.size ≤ 44 := by unfold chunks; omega
  obtain ⟨a1, a2⟩ := ckWrites_up (2 + h.side * 44) t (List.range (chunks t.size)) 0 D hu (by rw [List.length_range]; omega)
  have a3 := (ckWrites_len (2 + h.side * 44) t (List.range (chunks t.size)) 0 D).1
  have hsl : h.epoch % 2 < 2 := Nat.mod_lt _ (by decide)
  unfold ckD
  generalize ckWrites (2 + h.side * 44) t D 0 (List.range (chunks t.size)) = R at *
  obtain ⟨b1, b2⟩ := flush_up a2
  have b3 : R.2.flush.2.now = R.2.now := by
    rcases flush_cases R.2 with ⟨-, -, f3, -, -⟩ | ⟨-, -, f3, -⟩ <;> exact f3
  obtain ⟨c1, c2⟩ := write_up b2 (h.epoch % 2) (headB h) (by rw [b3, a3]; omega) (by rw [headB_size]; decide)
  rw [if_pos a1, if_pos b1, if_pos c1]
  exact flush_up c2

end Go.Proofs.Ytkapmpngglibjaa
