/- The disk's write: what it does to the disk, for any sector number and any text. Conditions: each contract's own premises. -/
import Derived.Test.YtkapmpngglibjaaDisk
namespace Go.Proofs.Ytkapmpngglibjaa
open Go Go.RowKit

theorem info5 : (Try.prog.info? 5).map (fun i => (i.zero, i.size, i.bytes)) = some (some (.int .u8 0), 1, 1) := by kernel_rfl
theorem mk_bytes (n : Nat) (hn : n ≤ 140) (u : World) : (Instr.makeSlice 129 (.int .i64 (n : Int)) (.int .i64 (n : Int))).run Try.prog u =
      .ok (.slice (some ⟨u.heap.size, 0, none⟩) n n) (u.alloc (.cells (madeCells #[.int .u8 0] n) 5)) := by
  obtain ⟨i0, hi, hz0, hz1, hz2⟩ := info_parts info5
  have h := run_make (P := Try.prog) u 129 5 i0 (.int .u8 0) Try.underlying129 hi hz0 .i64 .i64 (n : Int) (n : Int) (by omega) (Int.le_refl _) (by rw [hz2]; omega) (by omega)
  simpa [hz1, Value.cells] using h
theorem cell_made (u : World) (n : Nat) (j : Nat) (hj : j < n) : (u.alloc (.cells (madeCells #[.int .u8 0] n) 5)).cell? ⟨u.heap.size, j, none⟩ = some (.int .u8 0) := by
  rw [cell_of (heap_alloc_new u _)]
  simp [madeCells, hj, Nat.mod_one]

set_option maxHeartbeats 400000 in
set_option maxRecDepth 100000 in
theorem full_any (s : ByteArray) (w : World) (hs : s.size ≤ 140) :
    Calls Try.prog 64 #[.string s] w (Ret (.string (padTo 140 s)) fun w' => Below w.heap.size w w') := by
  obtain ⟨n, hn⟩ : ∃ n : Nat, n = 140 - s.size := ⟨_, rfl⟩
  have hmk := mk_bytes n (by omega)
  have hcv := fun (u : World) => run_convert_bytes_back (P := Try.prog) (u.alloc (.cells (madeCells #[.int .u8 0] n) 5)) 129 9 5 ⟨u.heap.size, 0, none⟩ n (List.replicate n 0) Try.underlying129 Try.underlying5 Try.underlying9
    (by intro j hj; rw [List.length_replicate] at hj; have h := cell_made u n j hj; by_cases h0 : j = 0 <;> simp [Addr.add, h0] <;> simpa [h0] using h)
  simp only [List.length_replicate] at hcv
  have e1 : (140 : Int) - (s.size : Int) = (n : Int) := by omega
  have h0 : (0 : Int) ≤ (n : Int) := by omega
  have h1 : (n : Int) ≤ 140 := by omega
  have H := Lib.hid hn
  clear hn
  go_enter Try.func64, Try.ntmps64
  go_wp2
  go_ret
  have hn := H.out
  exact Ret.of (by simp [padTo, hn]) ((Below.refl _ _).alloc (Nat.le_refl _) _)

set_option maxHeartbeats 400000 in
set_option maxRecDepth 100000 in
theorem write_bad (b : Nat) (X : List Nat) (D : DM) (at_ : Int) (s : ByteArray) (w : World) (hD : DiskAt w 107 111 b X D) (hbad : at_ < 0 ∨ (D.now.length : Int) ≤ at_ ∨ 140 < s.size) :
    Calls Try.prog 17 #[.pointer (some ⟨b, 0, none⟩), .int .i64 at_, .string s] w (Ret (errV 1) fun w' => w = w') := by
  obtain ⟨vk, vn, vw, h1, h2, h3, h4, h5, h6, h7, h8, h9⟩ := hD.ex
  obtain ⟨g, cap, cur, rfl, _, hg, hcap, hmax, hcs, hxs⟩ := owns_open h3 hD.ok.pos
  have c1 : w.cell? ⟨b, 1, none⟩ = some (.slice (some ⟨g, 0, none⟩) D.now.length cap) := by rw [cell_of h1]; rfl
  have hm := hD.ok.most
  clear h1 h2 h3 h4 h5 h6 h7 h8 h9 hg hcs hxs
  by_cases a1 : at_ < 0
  · clear hbad
    go_enter Try.func17, Try.ntmps17
    go_wp2
    go_ret
    exact Ret.of rfl rfl
  by_cases a2 : (D.now.length : Int) ≤ at_
  · clear hbad
    go_enter Try.func17, Try.ntmps17
    go_wp2
    go_ret
    exact Ret.of rfl rfl
  · have a3 : (140 : Int) < (s.size : Int) := by omega
    clear hbad
    go_enter Try.func17, Try.ntmps17
    go_wp2
    go_ret
    exact Ret.of rfl rfl

theorem info111 : (Try.prog.info? 111).map (fun i => (i.zero, i.size, i.bytes)) = some (some (.agg #[.int .i64 0, .string ByteArray.empty]), 2, 24) := by kernel_rfl
set_option maxHeartbeats 400000 in
set_option maxRecDepth 100000 in
theorem write_good (b : Nat) (X : List Nat) (D : DM) (at_ : Nat) (s : ByteArray) (w : World) (hD : DiskAt w 107 111 b X D) (ha : at_ < D.now.length) (hs : s.size ≤ 140) (hst : D.step.1 = true) (hw : D.wait.length < 10000) :
    Calls Try.prog 17 #[.pointer (some ⟨b, 0, none⟩), .int .i64 (at_ : Int), .string s] w (Ret (errV 0) fun w' => ∃ Y, DiskAt w' 107 111 b Y (D.step.2.put at_ s) ∧ Frame X w w' ∧ Fresh w X Y) := by
  obtain ⟨-, ⟨v1, c1⟩, -⟩ := hD.cell0
  obtain ⟨g, cap, rfl, -, -, hcap, -, -, -⟩ := hD.now_of c1
  have hm := hD.ok.most
  have a1 : (0 : Int) ≤ (at_ : Int) := by omega
  have a2 : (at_ : Int) < (D.now.length : Int) := by omega
  have a3 : (s.size : Int) ≤ 140 := by omega
  have e1 := D.step_now
  have H1 := Lib.hid e1
  clear e1
  go_enter Try.func17, Try.ntmps17
  go_wp2_with fail
  refine (step_any b X D _ hD).mono ?_
  rintro e w1 ⟨rfl, hD1, hF1⟩
  have e0 : errV D.stepErr = .nilIface := by simp [errV, DM.stepErr, hst]
  rw [e0]
  clear e0 c1
  have e1 := H1.out
  clear H1
  have ha1 : at_ < D.step.2.now.length := by rw [e1.1]; exact ha
  have hw1 : D.step.2.wait.length < 10000 := by rw [e1.2.1]; exact hw
  clear e1
  generalize hE : D.step.2 = D1 at *
  have HE := Lib.hid hE
  clear hE
  have hm1 := hD1.ok.most
  obtain ⟨-, ⟨v1, c1⟩, -⟩ := hD1.cell0
  obtain ⟨g, cap, rfl, -, -, hcap, -, -, -⟩ := hD1.now_of c1
  have hbX := hD1.cells.2.2.2
  have a2' : (at_ : Int) < (D1.now.length : Int) := by omega
  go_wp2_with fail
  refine wp_region_plan (fun w2 => Frame [] w1 w2) 56 [([0, 4, 5, 1, 2, 3], [6], true), ([7], [8], false)] (by kernel_rfl) (by kernel_rfl) ?_
  apply wpStages_keep
  case hT => exact (Frame.refl _ _).drew
  case hn => exact Nat.le_refl _
  case hq =>
    intro w2 hT
    have k1 := hT.cell c1 (by simp)
    simp only [picked, List.filterMap_cons, List.filterMap_nil, List.getElem?_cons_zero, List.getElem?_cons_succ]
    repeat still_step
    exact wpStill_nil rfl
  simp only [picked, List.filterMap_cons, List.filterMap_nil, List.getElem?_cons_zero, List.getElem?_cons_succ]
  go_wp2_with fail
  refine (full_any s _ hs).mono ?_
  rintro e w2 ⟨rfl, hB⟩
  have hF2 := (Frame.of_below [] hB).drew'
  clear hB
  go_wp2_with fail
  refine OnlyNormal.mk ⟨hF2, ?_⟩
  have hD2 := hD1.frame hF2 (by simp)
  obtain ⟨g', cap', hg', -, hgX, -, hz, hc, hset⟩ := hD2.now_of (hF2.cell c1 (by simp))
  cases hg'
  have z2 := hz at_
  have c2 := hc at_ ha1
  have hD3 := hset at_ (padTo 140 s) ha1
  have hF3 := ((hF1.then' hF2 (by simp)).set (p := ⟨g, at_, none⟩) (.inl hgX) (.string (padTo 140 s)))
  clear hz hc hset
  apply wpStages_last
  case hT => exact hF2
  case hn => exact Nat.le_refl _
  case hq =>
    intro w3 hT
    simp only [picked, List.filterMap_cons, List.filterMap_nil, List.getElem?_cons_zero, List.getElem?_cons_succ]
    repeat still_step
    exact wpStill_nil rfl
  simp only [picked, List.filterMap_cons, List.filterMap_nil, List.getElem?_cons_zero, List.getElem?_cons_succ]
  go_wp2_with fail
  refine OnlyNormal.mk ?_
  generalize w2.setCell ⟨g, at_, none⟩ (.string (padTo 140 s)) = w3 at *
  clear hF2 hD2 c1 c2 z2 hD1 hF1
  obtain ⟨-, ⟨v1, c1⟩, ⟨v2, c2⟩⟩ := hD3.cell0
  obtain ⟨g, cap, rfl, hown1, -, hcap, -, hcs, -⟩ := hD3.now_of c1
  have c3 := hcs at_ (by simpa using ha1)
  have e3 : (D1.now.set at_ (padTo 140 s)).getD at_ ByteArray.empty = padTo 140 s := by simp [ha1]
  rw [e3] at c3
  obtain ⟨hown, hvX, hmk⟩ := hD3.wait_of c2
  have l3 : (D1.now.set at_ (padTo 140 s)).length = D1.now.length := by simp
  simp only [l3] at *
  clear hcs
  have hnb : b ∉ v2.ownBlock.toList := fun h => (hvX b (by simpa using h)).2 rfl
  have hng : g ∉ v2.ownBlock.toList := fun h => by
    obtain ⟨cur, hcur⟩ := owns_lt hown (show v2.ownBlock = some g by simpa using h)
    obtain ⟨_, _, _, h1, _, h2, _⟩ := owns_open hown1 (by omega)
    cases h1
    rw [hcur] at h2
    cases h2
  go_wp2_with fail
  refine wp_region_plan (fun w2 => Frame v2.ownBlock.toList w3 w2) 56 [([0, 1, 5, 6, 10, 2, 7, 3, 8, 4, 9, 11, 12, 13], [14], true), ([], [15], true), ([16, 17], [18], false)] (by kernel_rfl) (by kernel_rfl) ?_
  apply wpStages_keep
  case hT => exact (Frame.refl _ _).drew
  case hn => exact Nat.le_refl _
  case hq =>
    intro w4 hT
    have k1 := hT.cell c1 hnb
    have k2 := hT.cell c2 hnb
    have k3 := hT.cell c3 hng
    simp only [picked, List.filterMap_cons, List.filterMap_nil, List.getElem?_cons_zero, List.getElem?_cons_succ]
    repeat still_step
    exact wpStill_nil rfl
  simp only [picked, List.filterMap_cons, List.filterMap_nil, List.getElem?_cons_zero, List.getElem?_cons_succ]
  go_wp2_with fail
  refine OnlyNormal.mk ⟨((Frame.refl _ _).drew).alloc _, ?_⟩
  apply wpStages_seqkeep
  simp only [picked, List.filterMap_cons, List.filterMap_nil, List.getElem?_cons_zero, List.getElem?_cons_succ]
  have hlt3 := hD3.lt
  have hown4 : ((w3.alloc (.cells #[.int .i64 (at_ : Int), .string (padTo 140 s)] 111)).drew).ownsRow 0 111 2 v2 D1.wait.length (waitCells D1.wait) :=
    owns_frame (X := []) hown (((Frame.refl _ _).alloc _).drew) (by simp)
  obtain ⟨i0, hi, hz0, hz1, hz2⟩ := info_parts info111
  refine wpList_append_lies _ rfl (.tmp 41) (.tmp 51) 105 rfl 0 111 i0 _ 2 24 Try.underlying105 hi hz0 hz1 hz2 rfl (by decide) v2 _ _ rfl hown4 ⟨w3.heap.size, 0, none⟩ 1 1 [.int .i64 (at_ : Int), .string (padTo 140 s)] rfl rfl
    (World.news_of_block (cs := #[.int .i64 (at_ : Int), .string (padTo 140 s)]) (heap_alloc_new w3 _)) (by simp [Value.oneCell']) (by decide) (by unfold maxLen; omega) (by omega) (Nat.zero_le _) (w3.heap.size + 1) (by simp) ?_
  intro gg cap5 w5 hown5 hgrow5 hat5 hlt5
  go_wp2_with fail
  have hF5 : Frame v2.ownBlock.toList w3 w5 := (((Frame.refl _ w3).alloc _).drew).grown hgrow5 (fun k hk => .inl (by simp [hk]))
  refine OnlyNormal.mk ⟨hF5, ?_⟩
  have c5 := hF5.cell c2 hnb
  have z5 : w5.frozen? ⟨b, 2, none⟩ = false := by rw [hF5.frozen (a := ⟨b, 2, none⟩) (hlt3 b hbX) hnb]; exact hD3.cells.2.2.1 2
  apply wpStages_last
  case hT => exact hF5
  case hn => exact Nat.le_refl _
  case hq =>
    intro w6 hT
    simp only [picked, List.filterMap_cons, List.filterMap_nil, List.getElem?_cons_zero, List.getElem?_cons_succ]
    repeat still_step
    exact wpStill_nil rfl
  simp only [picked, List.filterMap_cons, List.filterMap_nil, List.getElem?_cons_zero, List.getElem?_cons_succ]
  go_wp2_with fail
  refine OnlyNormal.mk ?_
  go_wp2_with fail
  go_ret
  have hggb : gg ≠ b := fun e => by
    rcases hat5 with h | h
    · exact (hvX gg h).2 e
    · have := hlt3 b hbX; omega
  have hsz := hF5.size
  refine Ret.of rfl ⟨gg :: X, ?_, ?_, ?_⟩
  · rw [HE.out]
    refine hmk w5 _ (D1.wait ++ [(at_, padTo 140 s)]) (gg :: X) (by rw [waitCells_append]; simpa using hown5) hsz (fun k hk hne => hF5.block k hk (by simpa using hne)) (fun k hk e => hggb (by cases hk; exact e)) (fun k hk => List.mem_cons_of_mem _ hk)
      (fun k hk => by cases hk; exact List.mem_cons_self ..) (fun k hk => ?_) (fun t ht => ?_)
    · rcases List.mem_cons.1 hk with rfl | hk
      · exact hlt5
      · have := hlt3 k hk; omega
    · simp only [List.mem_append, List.mem_singleton] at ht
      rcases ht with ht | rfl
      · simpa using hD3.ok.at_ t ht
      · simpa using ha1
  · exact (hF3.then' hF5 (fun k hk => .inl (hvX k (by simpa using hk)).1)).set (.inl hbX) _
  · intro k hk
    rcases List.mem_cons.1 hk with rfl | hk
    · rcases hat5 with h | h
      · exact .inl (hvX _ h).1
      · have := hF3.size
        exact .inr (by omega)
    · exact .inl hk
set_option maxHeartbeats 400000 in
set_option maxRecDepth 100000 in
theorem write_down (b : Nat) (X : List Nat) (D : DM) (at_ : Nat) (s : ByteArray) (w : World) (hD : DiskAt w 107 111 b X D) (ha : at_ < D.now.length) (hs : s.size ≤ 140) (hst : D.step.1 = false) :
    Calls Try.prog 17 #[.pointer (some ⟨b, 0, none⟩), .int .i64 (at_ : Int), .string s] w (Ret (errV 10) fun w' => DiskAt w' 107 111 b X D.step.2 ∧ Frame X w w') := by
  obtain ⟨-, ⟨v1, c1⟩, -⟩ := hD.cell0
  obtain ⟨g, cap, rfl, -, -, hcap, -, -, -⟩ := hD.now_of c1
  have hm := hD.ok.most
  have a1 : (0 : Int) ≤ (at_ : Int) := by omega
  have a2 : (at_ : Int) < (D.now.length : Int) := by omega
  have a3 : (s.size : Int) ≤ 140 := by omega
  go_enter Try.func17, Try.ntmps17
  go_wp2_with fail
  refine (step_any b X D _ hD).mono ?_
  rintro e w1 ⟨rfl, hD1, hF1⟩
  have e0 : errV D.stepErr = .iface 101 (.int .i64 10) := by simp [errV, DM.stepErr, hst]
  rw [e0]
  clear e0
  go_wp2_with fail
  go_ret
  exact Ret.of rfl ⟨hD1, hF1⟩

/-- The write, as the plain disk has it. -/
theorem write_any (b : Nat) (X : List Nat) (D : DM) (at_ : Int) (s : ByteArray) (w : World) (hD : DiskAt w 107 111 b X D) (hw : D.wait.length < 10000) :
    Calls Try.prog 17 #[.pointer (some ⟨b, 0, none⟩), .int .i64 at_, .string s] w (Ret (errV (D.write at_ s).1) fun w' => ∃ Y, DiskAt w' 107 111 b Y (D.write at_ s).2 ∧ Frame X w w' ∧ Fresh w X Y) := by
  by_cases hbad : at_ < 0 ∨ (D.now.length : Int) ≤ at_ ∨ 140 < s.size
  · refine (write_bad b X D at_ s w hD hbad).mono ?_
    rintro e w' ⟨rfl, rfl⟩
    have e1 : D.write at_ s = (1, D) := by simp [DM.write, hbad]
    rw [e1]
    exact Ret.of rfl ⟨X, hD, Frame.refl _ _, Fresh.refl _ _⟩
  · obtain ⟨n, rfl⟩ := Int.eq_ofNat_of_zero_le (show 0 ≤ at_ by omega)
    by_cases hst : D.step.1 = true
    · refine (write_good b X D n s w hD (by omega) (by omega) hst hw).mono ?_
      rintro e w' ⟨rfl, h⟩
      have e1 : D.write (n : Int) s = (0, D.step.2.put n s) := by rw [DM.write, if_neg hbad, if_pos hst]; rfl
      rw [e1]
      exact Ret.of rfl h
    · refine (write_down b X D n s w hD (by omega) (by omega) (by simpa using hst)).mono ?_
      rintro e w' ⟨rfl, h1, h2⟩
      have e1 : D.write (n : Int) s = (10, D.step.2) := by rw [DM.write, if_neg hbad, if_neg hst]
      rw [e1]
      exact Ret.of rfl ⟨X, h1, h2, Fresh.refl _ _⟩

end Go.Proofs.Ytkapmpngglibjaa
