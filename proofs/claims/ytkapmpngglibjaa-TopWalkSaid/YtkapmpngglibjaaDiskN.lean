/- A new disk: what is made, and that it is empty. Conditions: each contract's own premises. -/
import Derived.Test.YtkapmpngglibjaaDiskW
import Derived.Test.YtkapmpngglibjaaDiskR
namespace Go.Proofs.Ytkapmpngglibjaa
open Go Go.RowKit

theorem and_low : ∀ n : Nat, n < 131 → bits BinOp.and IntKind.u64 (n : Int) 4294967295 = (n : Int) := by decide +kernel
set_option maxHeartbeats 400000 in
theorem mul64_any (n : Nat) (w : World) (hn : n ≤ 130) :
    Calls Try.prog 111 #[.int .u64 1, .int .u64 (n : Int)] w (Ret (.tuple #[.int .u64 0, .int .u64 (n : Int)]) fun w' => w = w') := by
  have h0 : (0 : Int) ≤ (n : Int) := by omega
  have h1 : (n : Int) ≤ 130 := by omega
  have e0 := and_low 0 (by omega)
  have e1 := and_low 1 (by omega)
  have e2 := and_low n (by omega)
  have e3 : (n : Int) / 4294967296 = 0 := by omega
  simp only [Int.cast_ofNat_Int] at e0 e1
  go_enter Try.func111, Try.ntmps111
  go_wp2
  go_ret2
  exact Ret.of rfl rfl
set_option maxHeartbeats 400000 in
theorem mul_any (n : Nat) (w : World) (hn : n ≤ 130) :
    Calls Try.prog 94 #[.int .u64 1, .int .u64 (n : Int)] w (Ret (.tuple #[.int .u64 0, .int .u64 (n : Int)]) fun w' => w = w') := by
  have h0 : (0 : Int) ≤ (n : Int) := by omega
  have h1 : (n : Int) ≤ 130 := by omega
  go_enter Try.func94, Try.ntmps94
  go_wp2_with fail
  refine (mul64_any n _ hn).mono ?_
  rintro e w' ⟨rfl, rfl⟩
  go_wp2_with fail
  go_ret2
  exact Ret.of rfl rfl

theorem info9 : (Try.prog.info? 9).map (fun i => (i.zero, i.size, i.bytes)) = some (some (.string ByteArray.empty), 1, 16) := by kernel_rfl
theorem mk_strs (n : Nat) (hn : n ≤ 10000) (u : World) : (Instr.makeSlice 47 (.int .i64 (n : Int)) (.int .i64 (n : Int))).run Try.prog u =
      .ok (.slice (some ⟨u.heap.size, 0, none⟩) n n) (u.alloc (.cells (madeCells #[.string ByteArray.empty] n) 9)) := by
  obtain ⟨i0, hi, hz0, hz1, hz2⟩ := info_parts info9
  have h := run_make (P := Try.prog) u 47 9 i0 (.string ByteArray.empty) Try.underlying47 hi hz0 .i64 .i64 (n : Int) (n : Int) (by omega) (Int.le_refl _) (by rw [hz2]; omega) (by omega)
  simpa [hz1, Value.cells] using h

/-- Block g is a row of N cells, of which the first k hold u. -/
def RowOf (w : World) (g N k : Nat) (u : Value) : Prop := ∃ cur : Array Value, w.heap[g]? = some (.cells cur 9 (0, 0)) ∧ cur.size = N ∧ ∀ j, j < k → cur[j]? = some u

theorem row_splice (cur : Array Value) (k m n : Nat) (u : Value) (hsz : cur.size = n) (hm : k + m ≤ n) (hj : ∀ j, j < k → cur[j]? = some u) :
    ∀ j, j < k + m → (cur.toList.take k ++ (List.replicate m u ++ cur.toList.drop (k + m))).toArray[j]? = some u := by
  intro j hjk
  have e1 : (cur.toList.take k).length = k := by simp; omega
  rw [List.getElem?_toArray]
  rcases Nat.lt_or_ge j k with h | h
  · rw [List.getElem?_append_left (by rw [e1]; exact h), List.getElem?_take_of_lt h]
    simpa using hj j h
  · rw [List.getElem?_append_right (by rw [e1]; exact h), e1, List.getElem?_append_left (by rw [List.length_replicate]; omega), List.getElem?_replicate, if_pos (by omega)]

set_option maxHeartbeats 400000 in
set_option maxRecDepth 100000 in
theorem repeat_any (g0 c0 n : Nat) (s : ByteArray) (w : World) (h1 : 1 ≤ n) (hn : n ≤ 130) (hx : w.cell? ⟨g0, 0, none⟩ = some (.string s)) :
    Calls Try.prog 63 #[.slice (some ⟨g0, 0, none⟩) 1 c0, .int .i64 (n : Int)] w (RetV fun v w' => w'.ownsRow w.heap.size 9 1 v n (List.replicate n (.string s)) ∧ Below w.heap.size w w') := by
  have a0 : (0 : Int) ≤ (n : Int) := by omega
  have a1 : (n : Int) ≤ 130 := by omega
  have hmk := mk_strs n (by omega)
  have hg0 := World.block_lt_of_cell? w _ hx
  go_enter Try.func63, Try.ntmps63
  go_wp2_with fail
  refine (mul_any n _ hn).mono ?_
  rintro e w' ⟨rfl, rfl⟩
  have hg1 : (w.alloc (.cells (madeCells #[.string ByteArray.empty] n) 9)).cell? ⟨g0, 0, none⟩ = some (.string s) := by
    rw [World.cell?_of_block (w := w) (heap_alloc_old w _ hg0)]; exact hx
  have hsz0 : (madeCells #[Value.string ByteArray.empty] n).size = n := by simp [madeCells]
  go_wp2_with (with_reducible refine wpList_copy_at rfl (.tmp 31) (.tmp 32) 47 47 rfl 9 Try.underlying47 size9 w.heap.size 0 n n ⟨g0, 0, none⟩ 1 c0 rfl rfl _ 9 (heap_alloc_new _ _) 1 [.string s] rfl ?_ ?_ ?_ ?_ ?_)
  · exact (Nat.min_eq_left h1).symm
  · intro j v hj
    match j, hj with
    | 0, hj => simp at hj; subst hj; simpa [Addr.add] using hg1
  · rw [hsz0]; omega
  · simp [Value.oneCell']
  intro w1 hrow1 hgr1 hs1
  have hR : RowOf w1 w.heap.size n 1 (.string s) := by
    refine ⟨_, hrow1, ?_, fun j hj => ?_⟩
    · simp [hsz0]; omega
    · obtain rfl : j = 0 := by omega
      simp
  have hB : Below w.heap.size w w1 := ((Below.refl _ _).alloc (Nat.le_refl _) _).grown hgr1 (by rw [size_alloc]; omega) (fun k hk => by cases hk; exact Nat.le_refl _)
  clear hrow1 hg1 hmk hgr1
  go_wp2_with fail
  go_loopw [8] (fun v wr => ∃ k : Nat, 1 ≤ k ∧ k ≤ n ∧ v = .int .i64 (k : Int) ∧ RowOf wr w.heap.size n k (.string s) ∧ Below w.heap.size w wr) (fun v _ => n - (intOf v).toNat)
  case atStart => exact ⟨1, by omega, by omega, rfl, hR, hB⟩
  case round =>
    obtain ⟨k, hk1, hk2, rfl, hRk, hBk⟩ := hrel
    by_cases hlt : k < n
    · have b1 : (k : Int) < (n : Int) := by omega
      have b0 : (0 : Int) ≤ (k : Int) := by omega
      have bne : n ≠ k := by omega
      go_wp2_with fail
      refine wp_region_plan (fun _ => True) 48 [([0, 1, 2, 4, 5, 3, 6], [7], true), ([8, 9], [], false)] (by kernel_rfl) (by kernel_rfl) ?_
      apply wpStages_keep
      case hT => trivial
      case hn => exact Nat.le_refl _
      case hq =>
        intro w2 hT
        simp only [picked, List.filterMap_cons, List.filterMap_nil, List.getElem?_cons_zero, List.getElem?_cons_succ]
        repeat still_step
        exact wpStill_nil rfl
      simp only [picked, List.filterMap_cons, List.filterMap_nil, List.getElem?_cons_zero, List.getElem?_cons_succ]
      obtain ⟨cur, hcur, hsz, hj⟩ := hRk
      obtain ⟨m, hm⟩ : ∃ m, m = Nat.min k (n - k) := ⟨_, rfl⟩
      have hm1 : m ≤ k := by rw [hm]; exact Nat.min_le_left _ _
      have hm2 : m ≤ n - k := by rw [hm]; exact Nat.min_le_right _ _
      have hm3 : 1 ≤ m := by
        rw [hm]; exact Nat.le_min.2 ⟨hk1, by omega⟩
      refine wpList_copy_at rfl (.tmp 41) (.tmp 44) 47 47 rfl 9 Try.underlying47 size9 w.heap.size k (n - k) (n - k) ⟨w.heap.size, 0, none⟩ k n rfl rfl cur 9 hcur m (List.replicate m (.string s)) List.length_replicate hm ?_ (by omega) (by simp [Value.oneCell']) ?_
      · intro j v hjv
        obtain ⟨hjm, rfl⟩ := replicate_get hjv
        rw [addr_add]
        exact (cell_of (show wr.drew.heap[w.heap.size]? = _ from hcur) j).trans (hj j (by omega))
      intro w3 hrow3 hgr3 hs3
      have hR3 : RowOf w3 w.heap.size n (k + m) (.string s) := by
        refine ⟨_, hrow3, ?_, row_splice cur k m n _ hsz (by omega) hj⟩
        simp
        omega
      have hB3 : Below w.heap.size w w3 := (hBk.drew).grown hgr3 (by have := hBk.size; exact this) (fun k hk => by cases hk; exact Nat.le_refl _)
      clear hrow3 hgr3 hm
      refine wpList_nil (OnlyNormal.mk ⟨trivial, ?_⟩)
      have b2 : (k : Int) + (m : Int) ≤ (n : Int) := by omega
      have hwr : IntKind.i64.wrap ((k : Int) + (m : Int)) = (k : Int) + (m : Int) := IntWalk.i64_in _ (by omega)
      apply wpStages_last
      case hT => trivial
      case hn => exact Nat.le_refl _
      case hq =>
        intro w2 hT
        simp only [picked, List.filterMap_cons, List.filterMap_nil, List.getElem?_cons_zero, List.getElem?_cons_succ]
        repeat still_step
        exact wpStill_nil rfl
      clear hwr
      refine wpList_nil (OnlyNormal.mk ?_)
      go_wp2_with fail
      go_roundw
      case rel => exact ⟨k + m, by omega, by omega, by go_num, hR3, hB3⟩
      case measure => simp [intOf]; omega
    · obtain rfl : k = n := by omega
      go_wp2_with fail
      go_ret
      obtain ⟨cur, hcur, hsz, hj⟩ := hRk
      refine ⟨.slice (some ⟨w.heap.size, 0, none⟩) k k, rfl, ⟨by simp, .inr ⟨w.heap.size, k, cur, rfl, Nat.le_refl _, hcur, Nat.le_refl _, by unfold maxLen; omega, by omega, ?_⟩⟩, hBk⟩
      refine List.ext_getElem? fun j => ?_
      rcases Nat.lt_or_ge j k with h | h
      · rw [List.getElem?_take_of_lt (by omega), List.getElem?_replicate, if_pos h]
        simpa using hj j h
      · rw [List.getElem?_eq_none (by simp; omega), List.getElem?_eq_none (by simp; omega)]

set_option maxHeartbeats 400000 in
set_option maxRecDepth 100000 in
theorem clone_any (g n cap : Nat) (l : List ByteArray) (w : World) (hn : n ≤ 10000) (h0 : 1 ≤ n) (ho : w.ownsRow 0 9 1 (.slice (some ⟨g, 0, none⟩) n cap) n (l.map .string)) :
    Calls Try.prog 65 #[.slice (some ⟨g, 0, none⟩) n cap] w (RetV fun v w' => w'.ownsRow w.heap.size 9 1 v n (l.map .string) ∧ Below w.heap.size w w') := by
  have a0 : (0 : Int) ≤ (n : Int) := by omega
  have a1 : (n : Int) ≤ 10000 := by omega
  obtain ⟨i0, hi, hz0, hz1, hz2⟩ := info_parts info9
  have hcs : ∀ j u, (l.map Value.string)[j]? = some u → w.cell? ((⟨g, 0, none⟩ : Addr).add j) = some u := ho.cells rfl
  have hl : (l.map Value.string).length = n * 1 := ho.1
  have hlt : ∀ k, k = g → k < w.heap.size := fun k hk => by
    obtain ⟨cur, hc⟩ := owns_lt ho (show (Value.slice (some ⟨g, 0, none⟩) n cap).ownBlock = some k by rw [hk]; rfl)
    exact lt_of_heap hc
  have hnil := fun (w : World) => Lib.run_eql_slice_nil (P := Try.prog) w 47 9 (some ⟨g, 0, none⟩) n cap 0 0 Try.underlying47
  go_enter Try.func65, Try.ntmps65
  go_wp2_with (at_builtin; refine wpList_append_lies _ rfl (.tmp 5) (.tmp 6) 47 rfl w.heap.size 9 i0 _ 1 16 Try.underlying47 hi hz0 hz1 hz2 rfl (by decide) (.slice (some ⟨w.heap.size, 0, none⟩) 0 0) 0 [] rfl ⟨rfl, .inr ⟨w.heap.size, 0, #[], rfl, Nat.le_refl _, heap_alloc_new w _, Nat.le_refl _, Nat.zero_le _, rfl, rfl⟩⟩ ⟨g, 0, none⟩ n cap (l.map .string) rfl hl ?_ (by simp [Value.oneCell']) h0 (by unfold maxLen; omega) (by omega) (by rw [size_alloc]; omega) (w.heap.size + 1) (size_alloc _ _) ?_)
  · intro j u hu
    rw [addr_add]
    have := hcs j u hu
    rw [addr_add] at this
    rw [World.cell?_of_block (w := w) (heap_alloc_old w _ (hlt g rfl))]
    exact this
  intro g1 cap1 w1 ho1 hg1 hat hlt1
  go_wp2_with fail
  go_ret
  refine ⟨_, rfl, by simpa using ho1, ?_⟩
  exact ((Below.refl _ _).alloc (Nat.le_refl _) _).grown hg1 (by rw [size_alloc]; omega) (fun k hk => by cases hk; exact Nat.le_refl _)

/-- A new disk of n sectors. -/
def DM.new (n : Nat) : DM := { kept := List.replicate n (padTo 140 ByteArray.empty), now := List.replicate n (padTo 140 ByteArray.empty), wait := [], fuse := -1, down := false }

theorem DM.new_ok (n : Nat) (h1 : 1 ≤ n) (hn : n ≤ 130) : (DM.new n).Ok :=
  ⟨by simp [DM.new], by simpa [DM.new] using h1, by simpa [DM.new] using hn, by simp [DM.new], by simp [DM.new], by simp [DM.new]⟩

set_option maxHeartbeats 400000 in
set_option maxRecDepth 100000 in
theorem new_bad (n : Int) (w : World) (h : n < 1 ∨ 130 < n) :
    Calls Try.prog 13 #[.int .i64 n] w (Ret (.tuple #[.pointer none, errV 1]) fun w' => w = w') := by
  by_cases h1 : n < 1
  · clear h
    go_enter Try.func13, Try.ntmps13
    go_wp2
    go_ret2
    exact Ret.of rfl rfl
  · have h2 : 130 < n := by omega
    clear h
    go_enter Try.func13, Try.ntmps13
    go_wp2
    go_ret2
    exact Ret.of rfl rfl

set_option maxHeartbeats 400000 in
set_option maxRecDepth 100000 in
theorem new_good (n : Nat) (w : World) (h1 : 1 ≤ n) (hn : n ≤ 130) :
    Calls Try.prog 13 #[.int .i64 (n : Int)] w (RetV fun v w' => ∃ b X, v = .tuple #[.pointer (some ⟨b, 0, none⟩), .nilIface] ∧ DiskAt w' 107 111 b X (DM.new n) ∧ Below w.heap.size w w' ∧ ∀ k ∈ X, w.heap.size ≤ k) := by
  have a1 : (1 : Int) ≤ (n : Int) := by omega
  have a2 : (n : Int) ≤ 130 := by omega
  go_enter Try.func13, Try.ntmps13
  go_wp2_with fail
  refine (full_any ByteArray.empty _ (by decide)).mono ?_
  rintro e w1 ⟨rfl, hB1⟩
  generalize hz : padTo 140 ByteArray.empty = z
  have HZ := Lib.hid hz
  clear hz
  have hs1 := hB1.size
  go_wp2_with fail
  refine (repeat_any w1.heap.size 1 n z (w1.alloc (.cells #[.string z] 9)) h1 hn (by rw [cell_of (heap_alloc_new w1 _)]; rfl)).mono ?_
  rintro e w2 ⟨v2, rfl, ho2, hB2⟩
  rw [size_alloc] at ho2
  obtain ⟨g2, cap2, cur2, rfl, hg2, -⟩ := owns_open ho2 h1
  have hs2 := hB2.size
  rw [size_alloc] at hs2
  go_wp2_with fail
  have e2 : List.replicate n (Value.string z) = (List.replicate n z).map .string := by simp
  rw [e2] at ho2
  have ho2' := ho2
  refine (clone_any g2 n cap2 (List.replicate n z) w2 (by omega) h1 (owns_zero ho2)).mono ?_
  rintro e w3 ⟨v3, rfl, ho3, hB3⟩
  obtain ⟨g3, cap3, cur3, rfl, hg3, hh3, -⟩ := owns_open ho3 h1
  have hs3 := hB3.size
  have ho2w := owns_frame (w' := w3) ho2 (Frame.of_below [] hB3) (by simp)
  have hB : Below w.heap.size w w3 := ((hB1.trans ((Below.refl _ _).alloc hs1 _)).trans (hB2.mono (by rw [size_alloc]; omega))).trans (hB3.mono (by omega))
  clear e2
  go_wp2_with fail
  go_ret2
  have eZ : (DM.new n).kept = List.replicate n z ∧ (DM.new n).now = List.replicate n z := by rw [← HZ.out]; exact ⟨rfl, rfl⟩
  refine RetV.of ⟨w3.heap.size, [w3.heap.size, g2, g3], rfl, ⟨⟨_, _, .slice none 0 0, heap_alloc_new w3 _, ?_, ?_, World.ownsRow_nil _ _ _ _, ?_, by simp, ?_, ?_, by simp [Value.ownBlock]⟩, ?_, by decide, DM.new_ok n h1 hn⟩, hB.alloc (by omega) _, ?_⟩
  · have := owns_frame (w' := w3.alloc (.cells #[.slice (some ⟨g2, 0, none⟩) n cap2, .slice (some ⟨g3, 0, none⟩) n cap3, .slice none 0 0, .int .i64 (-1), .bool false] 107)) ho2w ((Frame.refl [] w3).alloc _) (by simp)
    rw [eZ.1]
    simpa using owns_zero this
  · have := owns_frame (w' := w3.alloc (.cells #[.slice (some ⟨g2, 0, none⟩) n cap2, .slice (some ⟨g3, 0, none⟩) n cap3, .slice none 0 0, .int .i64 (-1), .bool false] 107)) ho3 ((Frame.refl [] w3).alloc _) (by simp)
    rw [eZ.2]
    simpa using owns_zero this
  · intro k hk hk3
    have e2 : g2 = k := by simpa [Value.ownBlock] using hk
    have e3 : g3 = k := by simpa [Value.ownBlock] using hk3
    obtain ⟨cur, hcur⟩ := owns_lt ho2' (show (Value.slice (some ⟨g2, 0, none⟩) n cap2).ownBlock = some k by rw [e2]; rfl)
    have := lt_of_heap hcur
    omega
  · intro k hk
    have e2 : g2 = k := by simpa [Value.ownBlock] using hk
    simp [e2]
  · intro k hk
    have e3 : g3 = k := by simpa [Value.ownBlock] using hk
    simp [e3]
  · intro k hk
    rw [size_alloc]
    obtain ⟨cur, hcur⟩ := owns_lt ho2' (show (Value.slice (some ⟨g2, 0, none⟩) n cap2).ownBlock = some g2 by rfl)
    have := lt_of_heap hcur
    have := lt_of_heap hh3
    simp at hk
    omega
  · intro k hk
    simp at hk
    omega
end Go.Proofs.Ytkapmpngglibjaa
