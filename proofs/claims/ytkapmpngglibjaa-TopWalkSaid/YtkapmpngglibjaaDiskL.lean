/- The law DiskSays, walked: both disks make the same moves. Conditions: each contract's own premises. -/
import Derived.Test.YtkapmpngglibjaaSpins
namespace Go.Proofs.Ytkapmpngglibjaa
open Go Go.RowKit

theorem DM.step_len (D : DM) : D.step.2.now.length = D.now.length ∧ D.step.2.wait.length = D.wait.length := by
  obtain ⟨h1, h2, _⟩ := D.step_now
  rw [h1, h2]
  exact ⟨rfl, rfl⟩

theorem DM.write_len (D : DM) (a : Int) (s : ByteArray) : (D.write a s).2.now.length = D.now.length ∧ (D.write a s).2.wait.length ≤ D.wait.length + 1 := by
  obtain ⟨h1, h2⟩ := D.step_len
  unfold DM.write
  split
  · exact ⟨rfl, Nat.le_succ _⟩
  · split
    · simp [DM.put, h1, h2]
    · exact ⟨h1, by simp only; omega⟩

theorem DM.flush_len (D : DM) : D.flush.2.now.length = D.now.length ∧ D.flush.2.wait.length ≤ D.wait.length + 1 := by
  obtain ⟨h1, h2⟩ := D.step_len
  unfold DM.flush
  split
  · simp [h1]
  · exact ⟨h1, by simp only; omega⟩

theorem DM.restart_len (D : DM) (keep : Nat) (h : D.Ok) : (D.restart keep).now.length = D.now.length ∧ (D.restart keep).wait.length ≤ D.wait.length + 1 := by
  simp [DM.restart, keepFrom_length, h.len]

theorem down_still (T tw b : Nat) (X : List Nat) (D : DM) (w : World) (hD : DiskAt w T tw b X D) :
    Calls Try.prog 26 #[.pointer (some ⟨b, 0, none⟩)] w (fun e w' => e = .returned (.bool D.down) ∧ w' = w) :=
  (down_any T tw b X D w hD).mono fun _ _ h => ⟨h.1, h.2.symm⟩

/-- The two disks of the law, the program's and the document's, in one state. -/
structure Both (base : Nat) (w0 w : World) (b c : Nat) (X Y : List Nat) (D : DM) : Prop where
  d : DiskAt w 107 111 b X D
  m : DiskAt w 50 113 c Y D
  apart : ∀ k ∈ X, k ∉ Y
  lo : ∀ k ∈ X, base ≤ k
  lo' : ∀ k ∈ Y, base ≤ k
  below : Below base w0 w
  size : base ≤ w0.heap.size

theorem Both.alloc {base : Nat} {w0 w : World} {b c : Nat} {X Y : List Nat} {D : DM} (h : Both base w0 w b c X Y D) (o : Obj) : Both base w0 (w.alloc o) b c X Y D :=
  ⟨h.d.frame ((Frame.refl [] w).alloc o) (by simp), h.m.frame ((Frame.refl [] w).alloc o) (by simp), h.apart, h.lo, h.lo', h.below.alloc (Nat.le_trans h.size h.below.size) o, h.size⟩

theorem Both.drew {base : Nat} {w0 w : World} {b c : Nat} {X Y : List Nat} {D : DM} (h : Both base w0 w b c X Y D) : Both base w0 w.drew b c X Y D :=
  ⟨h.d.drew, h.m.drew, h.apart, h.lo, h.lo', h.below.drew, h.size⟩

/-- Both have made the same move, one behind the other. -/
theorem Both.moved {base : Nat} {w0 w w1 w2 : World} {b c : Nat} {X Y X' Y' : List Nat} {D D' : DM} (h : Both base w0 w b c X Y D) (h1 : DiskAt w1 107 111 b X' D') (f1 : Frame X w w1) (r1 : Fresh w X X')
    (h2 : DiskAt w2 50 113 c Y' D') (f2 : Frame Y w1 w2) (r2 : Fresh w1 Y Y') : Both base w0 w2 b c X' Y' D' := by
  have s0 := h.below.size
  have hs := h.size
  have s1 := f1.size
  refine ⟨h1.frame f2 fun k hk hY => ?_, h2, fun k hk hY => ?_, fun k hk => ?_, fun k hk => ?_, (h.below.trans (f1.below (Nat.le_trans hs s0) h.lo)).trans (f2.below (by omega) h.lo'), hs⟩
  · rcases r1 k hk with hX | hge
    · exact h.apart k hX hY
    · have := h.m.lt k hY; omega
  · have hk1 := h1.lt k hk
    rcases r2 k hY with hY0 | hge
    · rcases r1 k hk with hX | hge1
      · exact h.apart k hX hY0
      · have := h.m.lt k hY0; omega
    · omega
  · rcases r1 k hk with hX | hge
    · exact h.lo k hX
    · omega
  · rcases r2 k hk with hX | hge
    · exact h.lo' k hX
    · omega


set_option maxHeartbeats 4000000 in
set_option maxRecDepth 100000 in
theorem diskSays_good (sectors : Nat) (v : Value) (l : List (ActM × Value)) (w : World) (h : ActsAt w v l) (h1 : 1 ≤ sectors) (h2 : sectors ≤ 130) (hlight : lightActs l 80 = true) :
    Calls Try.prog 3 #[.int .i64 (sectors : Int), v] w (Ret (.bool true) fun w' => Below w.heap.size w w') := by
  have hlen : l.length ≤ 80 := by
    simp [lightActs] at hlight
    omega
  have HL := Lib.hid hlight
  have HA := Lib.hid h
  clear hlight
  obtain ⟨⟨ao, cap, rfl, hm, hr⟩, hch, hnlo, hnhi, hkhi⟩ := h
  rw [List.length_map] at *
  obtain ⟨n, hn⟩ : ∃ n, n = l.length := ⟨_, rfl⟩
  rw [← hn] at hm hlen ⊢ HA
  have HN := Lib.hid hn
  have HR := Lib.hid (And.intro hr (And.intro hnlo (And.intro hnhi (And.intro hkhi hch))))
  clear hn hm hr hnlo hnhi hkhi hch
  have n0 : (0 : Int) ≤ (n : Int) := by omega
  have n1 : (n : Int) ≤ 80 := by omega
  have s1 : (1 : Int) ≤ (sectors : Int) := by omega
  have s2 : (sectors : Int) ≤ 130 := by omega
  go_enter Try.func3, Try.ntmps3
  go_wp2_with fail
  refine (spins_any _).mono ?_
  rintro e w1 ⟨rfl, hB1⟩
  go_wp2_with fail
  refine (lightActs_any _ l 80 _ (HA.out.below hB1)).mono ?_
  rintro e w1 ⟨rfl, rfl⟩
  rw [HL.out]
  go_wp2_with fail
  refine (new_good sectors _ h1 h2).mono ?_
  rintro e w2 ⟨vd, rfl, b, X, rfl, hD, hB2, hX⟩
  go_wp2_with fail
  refine (rnew_good sectors _ h1 h2).mono ?_
  rintro e w3 ⟨vm, rfl, c, Y, rfl, hM, hB3, hY⟩
  have hD3 := hD.frame (Frame.of_below [] hB3) (by simp)
  have hs2 := hB2.size
  have hs3 := hB3.size
  have hs1 := hB1.size
  have hBoth : Both w.heap.size w w3 b c X Y (DM.new sectors) :=
    ⟨hD3, hM, fun k hk hk2 => by have := hD.lt k hk; have := hY k hk2; omega, fun k hk => Nat.le_trans hs1 (hX k hk), fun k hk => by have := hY k hk; omega,
      (hB1.trans (hB2.mono hs1)).trans (hB3.mono (by omega)), Nat.le_refl _⟩
  have hn0 : (DM.new sectors).now.length = sectors := by simp [DM.new]
  have hw0 : (DM.new sectors).wait.length = 0 := rfl
  generalize DM.new sectors = D0 at *
  clear hD3 hD hM hB2 hB3 hX hY hB1 hs1 hs2 hs3
  go_wp2_with fail
  refine (sectors_any 107 111 b X D0 _ hBoth.d).mono ?_
  rintro e w4 ⟨rfl, rfl⟩
  rw [hn0]
  go_wp2_with fail
  go_loopw [10] (fun i wr => ∃ k : Nat, k ≤ n ∧ i = .int .i64 (k : Int) ∧ ∃ X Y D, Both w.heap.size w wr b c X Y D ∧ D.now.length = sectors ∧ D.wait.length ≤ k) (fun i _ => n - (intOf i).toNat)
  case atStart => exact ⟨0, by omega, rfl, X, Y, D0, hBoth, hn0, by omega⟩
  case round =>
    obtain ⟨k, hk, rfl, X1, Y1, D1, hBk, hnD, hwD⟩ := hrel
    clear hBoth hn0 hw0
    have b0 : (0 : Int) ≤ (k : Int) := by omega
    by_cases hlt : k < n
    · have b1 : (k : Int) < (n : Int) := by omega
      obtain ⟨x, hx⟩ : ∃ x, l[k]? = some x := ⟨_, List.getElem?_eq_getElem (by rw [← HN.out]; exact hlt)⟩
      obtain ⟨hr, hnlo, hnhi, hkhi, hch⟩ := HR.out
      obtain ⟨xo, xcap, hxv, -⟩ := hch x (List.mem_of_getElem? hx)
      have hmem := List.mem_of_getElem? hx
      obtain ⟨ba, off, rfl, hcell⟩ := hr k (actCells x) (by simp [hx])
      have a1 := hnlo x hmem
      have a2 := hnhi x hmem
      have a3 := hkhi x hmem
      have at_ : ∀ j u, (actCells x)[j]? = some u → wr.cell? ⟨ba, off + k * 6 + j, none⟩ = some u := fun j u hu => by
        have hc := hcell j u hu
        exact (hBk.below.cell (p := ⟨ba, off + k * 6 + j, none⟩) (World.block_lt_of_cell? w _ hc)).trans hc
      have c0 := at_ 0 _ rfl
      have c1 := at_ 1 _ rfl
      have c2 := at_ 2 _ rfl
      have c3 := at_ 3 _ rfl
      have c4 := at_ 4 _ rfl
      have c5 := at_ 5 _ rfl
      clear at_ hcell hr hnlo hnhi hkhi hx hmem hch
      obtain ⟨⟨kind, s, t, an, ak, ch⟩, cv⟩ := x
      simp only at hxv
      subst hxv
      generalize (List.map Chg.cells ch).length = chl at *
      simp only [Nat.add_zero] at c0 c1 c2 c3 c4 c5 a1 a2 a3
      have HK := Lib.hid a3
      clear a3
      have hwx : D1.wait.length < 10000 := by omega
      by_cases k1 : (kind.toList == [119, 114, 105, 116, 101]) = true
      · go_wp2_with fail
        have hBl := hBk.alloc (.cells #[.string kind, .string s, .string t, .int .i64 an, .int .u64 (ak : Int), .slice xo chl xcap] 38)
        have l1 : (wr.alloc (.cells #[.string kind, .string s, .string t, .int .i64 an, .int .u64 (ak : Int), .slice xo chl xcap] 38)).cell? ⟨wr.heap.size, 1, none⟩ = some (.string s) := by rw [cell_of (heap_alloc_new wr _)]; rfl
        have l3 : (wr.alloc (.cells #[.string kind, .string s, .string t, .int .i64 an, .int .u64 (ak : Int), .slice xo chl xcap] 38)).cell? ⟨wr.heap.size, 3, none⟩ = some (.int .i64 an) := by rw [cell_of (heap_alloc_new wr _)]; rfl
        have l4 : (wr.alloc (.cells #[.string kind, .string s, .string t, .int .i64 an, .int .u64 (ak : Int), .slice xo chl xcap] 38)).cell? ⟨wr.heap.size, 4, none⟩ = some (.int .u64 (ak : Int)) := by rw [cell_of (heap_alloc_new wr _)]; rfl
        have hnX : wr.heap.size ∉ X1 := fun h => Nat.lt_irrefl _ (hBk.d.lt _ h)
        clear c0 c1 c2 c3 c4 c5 hBk
        generalize wr.alloc (.cells #[.string kind, .string s, .string t, .int .i64 an, .int .u64 (ak : Int), .slice xo chl xcap] 38) = wl at *
        refine wp_region_plan (fun w2 => w2.cell? ⟨wr.heap.size, 3, none⟩ = some (.int .i64 an) ∧ w2.cell? ⟨wr.heap.size, 1, none⟩ = some (.string s)) 177 [([0, 1, 3, 6, 7, 9, 2, 4, 8, 10], [5], true), ([], [11, 12, 13], false)] (by kernel_rfl) (by kernel_rfl) ?_
        apply wpStages_keep
        case hT => exact ⟨l3, l1⟩
        case hn => exact Nat.le_refl _
        case hq =>
          rintro w2 ⟨t3, t1⟩
          simp only [picked, List.filterMap_cons, List.filterMap_nil, List.getElem?_cons_zero, List.getElem?_cons_succ]
          repeat still_step
          exact wpStill_nil rfl
        simp only [picked, List.filterMap_cons, List.filterMap_nil, List.getElem?_cons_zero, List.getElem?_cons_succ]
        go_wp2_with fail
        refine (write_any b X1 D1 an s _ hBl.d.drew hwx).mono ?_
        rintro e wy ⟨rfl, X2, hd2, hf2, hr2⟩
        go_wp2_with fail
        refine OnlyNormal.mk ⟨⟨hf2.cell l3 hnX, hf2.cell l1 hnX⟩, ?_⟩
        apply wpStages_seq
        simp only [picked, List.filterMap_cons, List.filterMap_nil, List.getElem?_cons_zero, List.getElem?_cons_succ]
        have hm1 := hBl.drew.m.frame hf2 (fun k hk hX => hBl.apart k hX hk)
        go_wp2_with fail
        refine (rwrite_any c Y1 D1 an s _ hm1 hwx).mono ?_
        rintro e wz ⟨rfl, Y2, hm2, hg2, hs2⟩
        have hB2 := hBl.drew.moved hd2 hf2 hr2 hm2 hg2 hs2
        have hl := D1.write_len an s
        generalize (D1.write an s).1 = m at *
        generalize (D1.write an s).2 = D2 at *
        clear hm1 hf2 hd2 hm2 hg2 hr2 hs2 hBl l1 l3 l4
        unfold errN
        go_wp2_with fail
        refine (same_any m m _).mono ?_
        rintro e w9 ⟨rfl, rfl⟩
        rw [decide_eq_true rfl]
        go_wp2_with fail
        refine OnlyNormal.mk (wpStages_nil ?_)
        go_wp2_with fail
        -- behind the act: are both down?
        obtain ⟨c3, c4, -, -⟩ := hB2.m.cells
        have hdn := down_still 107 111 b X2 D2 wz.drew hB2.d.drew
        have c4' : wz.drew.cell? ⟨c, 4, none⟩ = some (.bool D2.down) := c4
        refine wp_region_plan (fun w2 => w2 = wz.drew) 177 [([0, 1, 2, 3, 5, 6, 7, 8, 4, 9, 10], [], false)] (by kernel_rfl) (by kernel_rfl) ?_
        apply wpStages_last
        case hT => rfl
        case hn => exact Nat.le_refl _
        case hq =>
          rintro w2 rfl
          simp only [picked, List.filterMap_cons, List.filterMap_nil, List.getElem?_cons_zero, List.getElem?_cons_succ]
          repeat still_step
          still_call hdn
          repeat still_step
          exact wpStill_nil rfl
        refine wpList_nil (OnlyNormal.mk ?_)
        clear hdn c4' c3 c4
        go_wp2_with fail
        go_roundw
        case rel => exact ⟨k + 1, by omega, by go_num, X2, Y2, D2, hB2.drew, by omega, by omega⟩
        case measure => simp [intOf]; omega

      rw [Bool.not_eq_true] at k1
      by_cases k2 : (kind.toList == [114, 101, 97, 100]) = true
      · go_wp2_with fail
        have hBl := hBk.alloc (.cells #[.string kind, .string s, .string t, .int .i64 an, .int .u64 (ak : Int), .slice xo chl xcap] 38)
        have l1 : (wr.alloc (.cells #[.string kind, .string s, .string t, .int .i64 an, .int .u64 (ak : Int), .slice xo chl xcap] 38)).cell? ⟨wr.heap.size, 1, none⟩ = some (.string s) := by rw [cell_of (heap_alloc_new wr _)]; rfl
        have l3 : (wr.alloc (.cells #[.string kind, .string s, .string t, .int .i64 an, .int .u64 (ak : Int), .slice xo chl xcap] 38)).cell? ⟨wr.heap.size, 3, none⟩ = some (.int .i64 an) := by rw [cell_of (heap_alloc_new wr _)]; rfl
        have l4 : (wr.alloc (.cells #[.string kind, .string s, .string t, .int .i64 an, .int .u64 (ak : Int), .slice xo chl xcap] 38)).cell? ⟨wr.heap.size, 4, none⟩ = some (.int .u64 (ak : Int)) := by rw [cell_of (heap_alloc_new wr _)]; rfl
        have hnX : wr.heap.size ∉ X1 := fun h => Nat.lt_irrefl _ (hBk.d.lt _ h)
        clear c0 c1 c2 c3 c4 c5 hBk
        generalize wr.alloc (.cells #[.string kind, .string s, .string t, .int .i64 an, .int .u64 (ak : Int), .slice xo chl xcap] 38) = wl at *
        refine (read_any b X1 D1 an _ hBl.d).mono ?_
        rintro e wy ⟨rfl, rfl⟩
        unfold readV
        go_wp2_with fail
        refine (rread_any c Y1 D1 an _ hBl.m).mono ?_
        rintro e wz ⟨rfl, rfl⟩
        unfold readN errN
        generalize (D1.read an).1 = rs at *
        generalize (D1.read an).2 = m at *
        have hrs : (rs.toList == rs.toList) = true := by simp
        have hB2 := hBl
        clear hBl l1 l3 l4
        obtain ⟨D2, X2, Y2, hD2, hX2, hY2⟩ : ∃ D2 X2 Y2, D2 = D1 ∧ X2 = X1 ∧ Y2 = Y1 := ⟨_, _, _, rfl, rfl, rfl⟩
        rw [← hD2, ← hX2, ← hY2] at hB2
        rw [← hD2] at hnD hwD
        have hl := And.intro (Eq.refl D2.now.length) (Nat.le_succ D2.wait.length)
        go_wp2_with fail
        refine (same_any m m _).mono ?_
        rintro e w9 ⟨rfl, rfl⟩
        rw [decide_eq_true rfl]
        go_wp2_with fail
        -- behind the act: are both down?
        obtain ⟨c3, c4, -, -⟩ := hB2.m.cells
        have hdn := down_still 107 111 b X2 D2 wl.drew hB2.d.drew
        have c4' : wl.drew.cell? ⟨c, 4, none⟩ = some (.bool D2.down) := c4
        refine wp_region_plan (fun w2 => w2 = wl.drew) 177 [([0, 1, 2, 3, 5, 6, 7, 8, 4, 9, 10], [], false)] (by kernel_rfl) (by kernel_rfl) ?_
        apply wpStages_last
        case hT => rfl
        case hn => exact Nat.le_refl _
        case hq =>
          rintro w2 rfl
          simp only [picked, List.filterMap_cons, List.filterMap_nil, List.getElem?_cons_zero, List.getElem?_cons_succ]
          repeat still_step
          still_call hdn
          repeat still_step
          exact wpStill_nil rfl
        refine wpList_nil (OnlyNormal.mk ?_)
        clear hdn c4' c3 c4
        go_wp2_with fail
        go_roundw
        case rel => exact ⟨k + 1, by omega, by go_num, X2, Y2, D2, hB2.drew, by omega, by omega⟩
        case measure => simp [intOf]; omega

      rw [Bool.not_eq_true] at k2
      by_cases k3 : (kind.toList == [102, 108, 117, 115, 104]) = true
      · go_wp2_with fail
        have hBl := hBk.alloc (.cells #[.string kind, .string s, .string t, .int .i64 an, .int .u64 (ak : Int), .slice xo chl xcap] 38)
        have l1 : (wr.alloc (.cells #[.string kind, .string s, .string t, .int .i64 an, .int .u64 (ak : Int), .slice xo chl xcap] 38)).cell? ⟨wr.heap.size, 1, none⟩ = some (.string s) := by rw [cell_of (heap_alloc_new wr _)]; rfl
        have l3 : (wr.alloc (.cells #[.string kind, .string s, .string t, .int .i64 an, .int .u64 (ak : Int), .slice xo chl xcap] 38)).cell? ⟨wr.heap.size, 3, none⟩ = some (.int .i64 an) := by rw [cell_of (heap_alloc_new wr _)]; rfl
        have l4 : (wr.alloc (.cells #[.string kind, .string s, .string t, .int .i64 an, .int .u64 (ak : Int), .slice xo chl xcap] 38)).cell? ⟨wr.heap.size, 4, none⟩ = some (.int .u64 (ak : Int)) := by rw [cell_of (heap_alloc_new wr _)]; rfl
        have hnX : wr.heap.size ∉ X1 := fun h => Nat.lt_irrefl _ (hBk.d.lt _ h)
        clear c0 c1 c2 c3 c4 c5 hBk
        generalize wr.alloc (.cells #[.string kind, .string s, .string t, .int .i64 an, .int .u64 (ak : Int), .slice xo chl xcap] 38) = wl at *
        refine (flush_any b X1 D1 _ hBl.d).mono ?_
        rintro e wy ⟨rfl, hd2, hf2⟩
        have hr2 := Fresh.refl wl X1
        have hm1 := hBl.m.frame hf2 (fun k hk hX => hBl.apart k hX hk)
        obtain ⟨X2, hX2⟩ : ∃ X2, X2 = X1 := ⟨_, rfl⟩
        go_wp2_with fail
        refine (rflush_any c Y1 D1 _ hm1).mono ?_
        rintro e wz ⟨rfl, Y2, hm2, hg2, hs2⟩
        have hB2 := hBl.moved hd2 hf2 hr2 hm2 hg2 hs2
        have hl := D1.flush_len
        rw [← hX2] at hB2
        generalize D1.flush.1 = m at *
        generalize D1.flush.2 = D2 at *
        clear hm1 hf2 hd2 hm2 hg2 hr2 hs2 hBl l1 l3 l4
        unfold errN
        go_wp2_with fail
        refine (same_any m m _).mono ?_
        rintro e w9 ⟨rfl, rfl⟩
        rw [decide_eq_true rfl]
        go_wp2_with fail
        -- behind the act: are both down?
        obtain ⟨c3, c4, -, -⟩ := hB2.m.cells
        have hdn := down_still 107 111 b X2 D2 wz.drew hB2.d.drew
        have c4' : wz.drew.cell? ⟨c, 4, none⟩ = some (.bool D2.down) := c4
        refine wp_region_plan (fun w2 => w2 = wz.drew) 177 [([0, 1, 2, 3, 5, 6, 7, 8, 4, 9, 10], [], false)] (by kernel_rfl) (by kernel_rfl) ?_
        apply wpStages_last
        case hT => rfl
        case hn => exact Nat.le_refl _
        case hq =>
          rintro w2 rfl
          simp only [picked, List.filterMap_cons, List.filterMap_nil, List.getElem?_cons_zero, List.getElem?_cons_succ]
          repeat still_step
          still_call hdn
          repeat still_step
          exact wpStill_nil rfl
        refine wpList_nil (OnlyNormal.mk ?_)
        clear hdn c4' c3 c4
        go_wp2_with fail
        go_roundw
        case rel => exact ⟨k + 1, by omega, by go_num, X2, Y2, D2, hB2.drew, by omega, by omega⟩
        case measure => simp [intOf]; omega

      rw [Bool.not_eq_true] at k3
      by_cases k4 : (kind.toList == [97, 114, 109]) = true
      · go_wp2_with fail
        have hBl := hBk.alloc (.cells #[.string kind, .string s, .string t, .int .i64 an, .int .u64 (ak : Int), .slice xo chl xcap] 38)
        have l1 : (wr.alloc (.cells #[.string kind, .string s, .string t, .int .i64 an, .int .u64 (ak : Int), .slice xo chl xcap] 38)).cell? ⟨wr.heap.size, 1, none⟩ = some (.string s) := by rw [cell_of (heap_alloc_new wr _)]; rfl
        have l3 : (wr.alloc (.cells #[.string kind, .string s, .string t, .int .i64 an, .int .u64 (ak : Int), .slice xo chl xcap] 38)).cell? ⟨wr.heap.size, 3, none⟩ = some (.int .i64 an) := by rw [cell_of (heap_alloc_new wr _)]; rfl
        have l4 : (wr.alloc (.cells #[.string kind, .string s, .string t, .int .i64 an, .int .u64 (ak : Int), .slice xo chl xcap] 38)).cell? ⟨wr.heap.size, 4, none⟩ = some (.int .u64 (ak : Int)) := by rw [cell_of (heap_alloc_new wr _)]; rfl
        have hnX : wr.heap.size ∉ X1 := fun h => Nat.lt_irrefl _ (hBk.d.lt _ h)
        clear c0 c1 c2 c3 c4 c5 hBk
        generalize wr.alloc (.cells #[.string kind, .string s, .string t, .int .i64 an, .int .u64 (ak : Int), .slice xo chl xcap] 38) = wl at *
        refine (arm_any b X1 D1 an _ hBl.d a2).mono ?_
        rintro e wy ⟨rfl, hd2, hf2⟩
        have hr2 := Fresh.refl wl X1
        have hm1 := hBl.m.frame hf2 (fun k hk hX => hBl.apart k hX hk)
        obtain ⟨X2, hX2⟩ : ∃ X2, X2 = X1 := ⟨_, rfl⟩
        obtain ⟨Y2, hY2⟩ : ∃ Y2, Y2 = Y1 := ⟨_, rfl⟩
        have l3' := hf2.cell l3 hnX
        obtain ⟨c3, c4, z0, hcY⟩ := hm1.cells
        have z3 := z0 3
        have hm2 := hm1.setFuse (max an (-1)) (by omega) (by omega)
        have hg2 : Frame Y1 wy (wy.setCell ⟨c, 3, none⟩ (.int .i64 (max an (-1)))) := (Frame.refl _ _).set (.inl hcY) _
        have hB2 := hBl.moved hd2 hf2 hr2 hm2 hg2 (Fresh.refl _ _)
        have hl : (D1.arm an).now.length = D1.now.length ∧ (D1.arm an).wait.length ≤ D1.wait.length + 1 := ⟨rfl, Nat.le_succ _⟩
        rw [← hX2, ← hY2] at hB2
        change Both _ _ _ _ _ _ _ (D1.arm an) at hB2
        generalize D1.arm an = D2 at *
        clear hm1 hf2 hd2 hm2 hg2 hr2 hBl l1 l3 l4 z0
        by_cases hlow : an < -1
        · have e1 : max an (-1) = -1 := by omega
          rw [e1] at hB2
          go_wp2_with fail
          generalize wy.setCell ⟨c, 3, none⟩ (.int .i64 (-1)) = wz at *
          -- behind the act: are both down?
          obtain ⟨c3, c4, -, -⟩ := hB2.m.cells
          have hdn := down_still 107 111 b X2 D2 wz.drew hB2.d.drew
          have c4' : wz.drew.cell? ⟨c, 4, none⟩ = some (.bool D2.down) := c4
          refine wp_region_plan (fun w2 => w2 = wz.drew) 177 [([0, 1, 2, 3, 5, 6, 7, 8, 4, 9, 10], [], false)] (by kernel_rfl) (by kernel_rfl) ?_
          apply wpStages_last
          case hT => rfl
          case hn => exact Nat.le_refl _
          case hq =>
            rintro w2 rfl
            simp only [picked, List.filterMap_cons, List.filterMap_nil, List.getElem?_cons_zero, List.getElem?_cons_succ]
            repeat still_step
            still_call hdn
            repeat still_step
            exact wpStill_nil rfl
          refine wpList_nil (OnlyNormal.mk ?_)
          clear hdn c4' c3 c4
          go_wp2_with fail
          go_roundw
          case rel => exact ⟨k + 1, by omega, by go_num, X2, Y2, D2, hB2.drew, by omega, by omega⟩
          case measure => simp [intOf]; omega
        · have e1 : max an (-1) = an := by omega
          rw [e1] at hB2
          go_wp2_with fail
          generalize wy.setCell ⟨c, 3, none⟩ (.int .i64 an) = wz at *
          -- behind the act: are both down?
          obtain ⟨c3, c4, -, -⟩ := hB2.m.cells
          have hdn := down_still 107 111 b X2 D2 wz.drew hB2.d.drew
          have c4' : wz.drew.cell? ⟨c, 4, none⟩ = some (.bool D2.down) := c4
          refine wp_region_plan (fun w2 => w2 = wz.drew) 177 [([0, 1, 2, 3, 5, 6, 7, 8, 4, 9, 10], [], false)] (by kernel_rfl) (by kernel_rfl) ?_
          apply wpStages_last
          case hT => rfl
          case hn => exact Nat.le_refl _
          case hq =>
            rintro w2 rfl
            simp only [picked, List.filterMap_cons, List.filterMap_nil, List.getElem?_cons_zero, List.getElem?_cons_succ]
            repeat still_step
            still_call hdn
            repeat still_step
            exact wpStill_nil rfl
          refine wpList_nil (OnlyNormal.mk ?_)
          clear hdn c4' c3 c4
          go_wp2_with fail
          go_roundw
          case rel => exact ⟨k + 1, by omega, by go_num, X2, Y2, D2, hB2.drew, by omega, by omega⟩
          case measure => simp [intOf]; omega

      rw [Bool.not_eq_true] at k4
      · go_wp2_with fail
        have hBl := hBk.alloc (.cells #[.string kind, .string s, .string t, .int .i64 an, .int .u64 (ak : Int), .slice xo chl xcap] 38)
        have l1 : (wr.alloc (.cells #[.string kind, .string s, .string t, .int .i64 an, .int .u64 (ak : Int), .slice xo chl xcap] 38)).cell? ⟨wr.heap.size, 1, none⟩ = some (.string s) := by rw [cell_of (heap_alloc_new wr _)]; rfl
        have l3 : (wr.alloc (.cells #[.string kind, .string s, .string t, .int .i64 an, .int .u64 (ak : Int), .slice xo chl xcap] 38)).cell? ⟨wr.heap.size, 3, none⟩ = some (.int .i64 an) := by rw [cell_of (heap_alloc_new wr _)]; rfl
        have l4 : (wr.alloc (.cells #[.string kind, .string s, .string t, .int .i64 an, .int .u64 (ak : Int), .slice xo chl xcap] 38)).cell? ⟨wr.heap.size, 4, none⟩ = some (.int .u64 (ak : Int)) := by rw [cell_of (heap_alloc_new wr _)]; rfl
        have hnX : wr.heap.size ∉ X1 := fun h => Nat.lt_irrefl _ (hBk.d.lt _ h)
        clear c0 c1 c2 c3 c4 c5 hBk
        generalize wr.alloc (.cells #[.string kind, .string s, .string t, .int .i64 an, .int .u64 (ak : Int), .slice xo chl xcap] 38) = wl at *
        refine (restart_any b X1 D1 ak _ hBl.d hwx HK.out).mono ?_
        rintro e wy ⟨rfl, hd2, hf2⟩
        have hr2 := Fresh.refl wl X1
        have hm1 := hBl.m.frame hf2 (fun k hk hX => hBl.apart k hX hk)
        obtain ⟨X2, hX2⟩ : ∃ X2, X2 = X1 := ⟨_, rfl⟩
        have l4' := hf2.cell l4 hnX
        go_wp2_with fail
        refine (rrestart_any c Y1 D1 ak _ hm1 hwx HK.out).mono ?_
        rintro e wz ⟨rfl, Y2, hm2, hg2, hs2⟩
        have hB2 := hBl.moved hd2 hf2 hr2 hm2 hg2 hs2
        have hl := D1.restart_len ak hBl.d.ok
        rw [← hX2] at hB2
        generalize D1.restart ak = D2 at *
        clear hm1 hf2 hd2 hm2 hg2 hr2 hs2 hBl l1 l3 l4 l4'
        go_wp2_with fail
        -- behind the act: are both down?
        obtain ⟨c3, c4, -, -⟩ := hB2.m.cells
        have hdn := down_still 107 111 b X2 D2 wz.drew hB2.d.drew
        have c4' : wz.drew.cell? ⟨c, 4, none⟩ = some (.bool D2.down) := c4
        refine wp_region_plan (fun w2 => w2 = wz.drew) 177 [([0, 1, 2, 3, 5, 6, 7, 8, 4, 9, 10], [], false)] (by kernel_rfl) (by kernel_rfl) ?_
        apply wpStages_last
        case hT => rfl
        case hn => exact Nat.le_refl _
        case hq =>
          rintro w2 rfl
          simp only [picked, List.filterMap_cons, List.filterMap_nil, List.getElem?_cons_zero, List.getElem?_cons_succ]
          repeat still_step
          still_call hdn
          repeat still_step
          exact wpStill_nil rfl
        refine wpList_nil (OnlyNormal.mk ?_)
        clear hdn c4' c3 c4
        go_wp2_with fail
        go_roundw
        case rel => exact ⟨k + 1, by omega, by go_num, X2, Y2, D2, hB2.drew, by omega, by omega⟩
        case measure => simp [intOf]; omega

    · obtain rfl : k = n := by omega
      go_wp2_with fail
      have hds := hBk.d
      have hms := hBk.m
      clear HA HR
      go_loop [17] (fun i => ∃ z : Int, -1 ≤ z ∧ z ≤ (sectors : Int) + 1 ∧ i = .int .i64 z) (fun i => ((sectors : Int) + 1 - intOf i).toNat)
      case atStart => exact ⟨-1, by omega, by omega, rfl⟩
      case round =>
        obtain ⟨z, hz1, hz2, rfl⟩ := hrel
        by_cases hz : z ≤ (sectors : Int)
        · go_wp2_with fail
          refine (read_any b X1 D1 z _ hds).mono ?_
          rintro e wy ⟨rfl, rfl⟩
          unfold readV
          go_wp2_with fail
          refine (rread_any c Y1 D1 z _ hms).mono ?_
          rintro e wz ⟨rfl, rfl⟩
          unfold readN errN
          generalize (D1.read z).1 = rs at *
          generalize (D1.read z).2 = m at *
          have hrs : (rs.toList == rs.toList) = true := by simp
          go_wp2_with fail
          refine (same_any m m _).mono ?_
          rintro e w9 ⟨rfl, rfl⟩
          rw [decide_eq_true rfl]
          go_wp2_with fail
          go_round
          case rel => exact ⟨z + 1, by omega, by omega, by go_num⟩
          case measure => simp [intOf]; omega
        · go_wp2_with fail
          go_ret
          exact Ret.of rfl hBk.below

set_option maxRecDepth 100000 in
theorem diskSays_dark (n : Int) (v : Value) (l : List (ActM × Value)) (w : World) (h : ActsAt w v l) (hlight : lightActs l 80 = false) :
    Calls Try.prog 3 #[.int .i64 n, v] w (Ret (.bool true) fun w' => Below w.heap.size w w') := by
  have HL := Lib.hid hlight
  have HA := Lib.hid h
  clear hlight h
  go_enter Try.func3, Try.ntmps3
  go_wp2_with fail
  refine (spins_any _).mono ?_
  rintro e w1 ⟨rfl, hB1⟩
  go_wp2_with fail
  refine (lightActs_any _ l 80 _ (HA.out.below hB1)).mono ?_
  rintro e w1 ⟨rfl, rfl⟩
  rw [HL.out]
  go_wp2_with fail
  go_ret
  exact Ret.of rfl hB1

set_option maxRecDepth 100000 in
theorem diskSays_bad (n : Int) (v : Value) (l : List (ActM × Value)) (w : World) (h : ActsAt w v l) (hlight : lightActs l 80 = true) (hn : n < 1 ∨ 130 < n) :
    Calls Try.prog 3 #[.int .i64 n, v] w (Ret (.bool true) fun w' => Below w.heap.size w w') := by
  have HL := Lib.hid hlight
  have HA := Lib.hid h
  clear hlight h
  go_enter Try.func3, Try.ntmps3
  go_wp2_with fail
  refine (spins_any _).mono ?_
  rintro e w1 ⟨rfl, hB1⟩
  go_wp2_with fail
  refine (lightActs_any _ l 80 _ (HA.out.below hB1)).mono ?_
  rintro e w1 ⟨rfl, rfl⟩
  rw [HL.out]
  go_wp2_with fail
  refine (new_bad n _ hn).mono ?_
  rintro e w2 ⟨rfl, rfl⟩
  go_wp2_with fail
  refine (rnew_bad n _ hn).mono ?_
  rintro e w2 ⟨rfl, rfl⟩
  go_wp2_with fail
  refine (same_any 1 1 _).mono ?_
  rintro e w2 ⟨rfl, rfl⟩
  go_wp2_with fail
  go_ret
  exact Ret.of rfl hB1

theorem diskSays_any (n : Int) (v : Value) (l : List (ActM × Value)) (w : World) (h : ActsAt w v l) :
    Calls Try.prog 3 #[.int .i64 n, v] w (Ret (.bool true) fun w' => Below w.heap.size w w') := by
  by_cases hl : lightActs l 80 = true
  · by_cases hn : n < 1 ∨ 130 < n
    · exact diskSays_bad n v l w h hl hn
    · obtain ⟨m, rfl⟩ := Int.eq_ofNat_of_zero_le (show 0 ≤ n by omega)
      exact diskSays_good m v l w h (by omega) (by omega) hl
  · exact diskSays_dark n v l w h (by simpa using hl)

end Go.Proofs.Ytkapmpngglibjaa
