/- The disk's other calls: read, flush, arm, down, how many sectors. Conditions: each contract's own premises. -/
import Derived.Test.YtkapmpngglibjaaDisk
namespace Go.Proofs.Ytkapmpngglibjaa
open Go Go.RowKit

theorem size9 : (Try.prog.info? 9).map (·.size) = some 1 := by kernel_rfl

set_option maxHeartbeats 400000 in
theorem sectors_any (T tw b : Nat) (X : List Nat) (D : DM) (w : World) (hD : DiskAt w T tw b X D) :
    Calls Try.prog 16 #[.pointer (some ⟨b, 0, none⟩)] w (Ret (.int .i64 (D.now.length : Int)) fun w' => w = w') := by
  obtain ⟨-, ⟨v1, c1⟩, -⟩ := hD.cell0
  obtain ⟨g, cap, rfl, -, -, hcap, -, -, -⟩ := hD.now_of c1
  go_enter Try.func16, Try.ntmps16
  go_wp2
  go_ret
  exact Ret.of rfl rfl

set_option maxHeartbeats 400000 in
theorem down_any (T tw b : Nat) (X : List Nat) (D : DM) (w : World) (hD : DiskAt w T tw b X D) :
    Calls Try.prog 26 #[.pointer (some ⟨b, 0, none⟩)] w (Ret (.bool D.down) fun w' => w = w') := by
  obtain ⟨c3, c4, hz, hX⟩ := hD.cells
  go_enter Try.func26, Try.ntmps26
  go_wp2
  go_ret
  exact Ret.of rfl rfl

set_option maxHeartbeats 400000 in
theorem arm_any (b : Nat) (X : List Nat) (D : DM) (n : Int) (w : World) (hD : DiskAt w 107 111 b X D) (hn : n ≤ 9223372036854775807) :
    Calls Try.prog 23 #[.pointer (some ⟨b, 0, none⟩), .int .i64 n] w (Ret (.tuple #[]) fun w' => DiskAt w' 107 111 b X (D.arm n) ∧ Frame X w w') := by
  obtain ⟨c3, c4, hz, hX⟩ := hD.cells
  have z3 := hz 3
  clear hz
  have hm : -1 ≤ max n (-1) := by omega
  have hm' : max n (-1) ≤ 9223372036854775807 := by omega
  have hset := hD.setFuse (max n (-1)) hm hm'
  by_cases h : n < -1
  · have e : max n (-1) = -1 := by omega
    rw [e] at hset
    have HE := Lib.hid e
    clear e hm hm'
    go_enter Try.func23, Try.ntmps23
    go_wp2
    go_end0
    refine Ret.of rfl ⟨?_, (Frame.refl _ _).set (.inl hX) _⟩
    unfold DM.arm
    rw [HE.out]
    exact hset
  · have e : max n (-1) = n := by omega
    rw [e] at hset
    have HE := Lib.hid e
    clear e hm hm'
    go_enter Try.func23, Try.ntmps23
    go_wp2
    go_end0
    refine Ret.of rfl ⟨?_, (Frame.refl _ _).set (.inl hX) _⟩
    unfold DM.arm
    rw [HE.out]
    exact hset

/-- A text and an error. -/
def readV (r : ByteArray × Nat) : Value := .tuple #[.string r.1, errV r.2]

set_option maxHeartbeats 400000 in
theorem read_any (b : Nat) (X : List Nat) (D : DM) (n : Int) (w : World) (hD : DiskAt w 107 111 b X D) :
    Calls Try.prog 19 #[.pointer (some ⟨b, 0, none⟩), .int .i64 n] w (Ret (readV (D.read n)) fun w' => w = w') := by
  obtain ⟨c3, c4, -, -⟩ := hD.cells
  obtain ⟨-, ⟨v1, c1⟩, -⟩ := hD.cell0
  obtain ⟨g, cap, rfl, -, -, hcap, -, hcs, -⟩ := hD.now_of c1
  by_cases hd : D.down = true
  · rw [hd] at c4
    have H := Lib.hid hd
    clear hd
    clear hcs
    go_enter Try.func19, Try.ntmps19
    go_wp2
    go_ret2
    refine Ret.of ?_ rfl
    rw [show D.read n = (ByteArray.empty, 10) from by rw [DM.read, if_pos H.out]]
    rfl
  · have hd' : D.down = false := by simpa using hd
    rw [hd'] at c4
    have H := Lib.hid hd'
    clear hd hd'
    by_cases h1 : n < 0
    · clear hcs
      go_enter Try.func19, Try.ntmps19
      go_wp2
      go_ret2
      refine Ret.of ?_ rfl
      rw [show D.read n = (ByteArray.empty, 1) from by rw [DM.read, if_neg (by rw [H.out]; simp), if_pos (by omega)]]
      rfl
    by_cases h2 : (D.now.length : Int) ≤ n
    · clear hcs
      go_enter Try.func19, Try.ntmps19
      go_wp2
      go_ret2
      refine Ret.of ?_ rfl
      rw [show D.read n = (ByteArray.empty, 1) from by rw [DM.read, if_neg (by rw [H.out]; simp), if_pos (by omega)]]
      rfl
    · obtain ⟨k, rfl⟩ := Int.eq_ofNat_of_zero_le (show 0 ≤ n by omega)
      have ck := hcs k (by omega)
      have a1 : (0 : Int) ≤ (k : Int) := by omega
      have a2 : (k : Int) < (D.now.length : Int) := by omega
      clear hcs
      obtain ⟨s, hs⟩ : ∃ s, D.now.getD k ByteArray.empty = s := ⟨_, rfl⟩
      rw [hs] at ck
      have HS := Lib.hid hs
      clear hs h1 h2
      go_enter Try.func19, Try.ntmps19
      go_wp2
      go_ret2
      refine Ret.of ?_ rfl
      have e : D.read (k : Int) = (D.now.getD k ByteArray.empty, 0) := by
        rw [DM.read, if_neg (by rw [H.out]; simp), if_neg (by omega)]; rfl
      rw [e, HS.out]
      rfl

set_option maxHeartbeats 400000 in
set_option maxRecDepth 100000 in
theorem flush_any (b : Nat) (X : List Nat) (D : DM) (w : World) (hD : DiskAt w 107 111 b X D) :
    Calls Try.prog 21 #[.pointer (some ⟨b, 0, none⟩)] w (Ret (errV D.flush.1) fun w' => DiskAt w' 107 111 b X D.flush.2 ∧ Frame X w w') := by
  go_enter Try.func21, Try.ntmps21
  go_wp2_with fail
  refine (step_any b X D _ hD).mono ?_
  rintro e w1 ⟨rfl, hD1, hF1⟩
  by_cases hst : D.step.1 = true
  · have e0 : errV D.stepErr = .nilIface := by simp [errV, DM.stepErr, hst]
    have ef : D.flush = (0, { D.step.2 with kept := D.step.2.now, wait := [] }) := by rw [DM.flush, if_pos hst]
    rw [e0]
    have HE := Lib.hid ef
    clear e0 ef hst
    obtain ⟨⟨v0, c0⟩, ⟨v1, c1⟩, -⟩ := hD1.cell0
    obtain ⟨g0, cap0, rfl, ho0, hX0, -⟩ := hD1.kept_of c0
    obtain ⟨g1, cap1, rfl, ho1, hX1, -⟩ := hD1.now_of c1
    have hbX := hD1.cells.2.2.2
    have hlen := hD1.ok.len
    rw [hlen] at ho0 c0
    clear hlen
    go_wp2_with fail
    refine wp_region_plan (fun w2 => Frame [] w1 w2) 21 [([0, 4, 1, 5, 2, 6, 3, 7], [8], false)] (by kernel_rfl) (by kernel_rfl) ?_
    apply wpStages_last
    case hT => exact (Frame.refl _ _).drew
    case hn => exact Nat.le_refl _
    case hq =>
      intro w2 hT
      have k0 := hT.cell c0 (by simp)
      have k1 := hT.cell c1 (by simp)
      simp only [picked, List.filterMap_cons, List.filterMap_nil, List.getElem?_cons_zero, List.getElem?_cons_succ]
      repeat still_step
      exact wpStill_nil rfl
    simp only [picked, List.filterMap_cons, List.filterMap_nil, List.getElem?_cons_zero, List.getElem?_cons_succ]
    have hF2 : Frame [] w1 w1.drew := (Frame.refl _ _).drew
    refine wpList_copy_same rfl (.tmp 11) (.tmp 15) 47 rfl 9 Try.underlying47 size9 g0 cap0 g1 cap1 D.step.2.now.length _ _ rfl rfl (owns_frame ho0 hF2 (by simp)) (owns_frame ho1 hF2 (by simp)) (by simp [Value.oneCell']) ?_
    intro w3 ho3 hg3 hs3
    refine wpList_nil (OnlyNormal.mk ?_)
    have hD3 := hD1.drew.setKept (v := .slice (some ⟨g0, 0, none⟩) D.step.2.now.length cap0) (by exact hF2.cell c0 (by simp)) (l := D.step.2.now) hD1.ok.len.symm ho3 hg3
    have hF3 : Frame X w w3 := (hF1.drew).grown hg3 (fun k hk => by cases hk; exact .inl hX0)
    have z3 := hD3.cells.2.2.1 2
    obtain ⟨-, -, ⟨v2, c2⟩⟩ := hD3.cell0
    go_wp2
    go_ret
    rw [HE.out]
    refine Ret.of rfl ⟨hD3.noWait, hF3.set (.inl hbX) _⟩
  · have e0 : errV D.stepErr = .iface 101 (.int .i64 10) := by simp [errV, DM.stepErr, hst]
    have ef : D.flush = (10, D.step.2) := by rw [DM.flush, if_neg hst]
    rw [e0]
    have HE := Lib.hid ef
    clear e0 ef
    go_wp2
    go_ret
    rw [HE.out]
    exact Ret.of rfl ⟨hD1, hF1⟩

end Go.Proofs.Ytkapmpngglibjaa
