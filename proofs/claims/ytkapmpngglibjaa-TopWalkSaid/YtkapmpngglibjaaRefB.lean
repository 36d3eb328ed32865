/- The document's disk: flush, restart, a new one. Conditions: each contract's own premises. -/
import Derived.Test.YtkapmpngglibjaaRefA
namespace Go.Proofs.Ytkapmpngglibjaa
open Go Go.RowKit

/-- A row that is read, as append wants it. -/
theorem owns_news {w : World} {base : Nat} {e : TypeId} {size g n cap : Nat} {xs : List Value} (h : w.ownsRow base e size (.slice (some ⟨g, 0, none⟩) n cap) n xs) :
    ∀ j u, xs[j]? = some u → w.cell? ((⟨g, 0, none⟩ : Addr).add j) = some u := h.cells rfl

set_option maxHeartbeats 400000 in
set_option maxRecDepth 100000 in
theorem rflush_any (b : Nat) (X : List Nat) (D : DM) (w : World) (hD : DiskAt w 50 113 b X D) :
    Calls Try.prog 22 #[.pointer (some ⟨b, 0, none⟩)] w (Ret (errN D.flush.1) fun w' => ∃ Y, DiskAt w' 50 113 b Y D.flush.2 ∧ Frame X w w' ∧ Fresh w X Y) := by
  go_enter Try.func22, Try.ntmps22
  go_wp2_with fail
  refine (rstep_any b X D _ hD).mono ?_
  rintro e w1 ⟨rfl, hD1, hF1⟩
  by_cases hst : D.step.1 = true
  · have e0 : errN D.stepErr = .int .i64 0 := by simp [errN, DM.stepErr, hst]
    have ef : D.flush = (0, { D.step.2 with kept := D.step.2.now, wait := [] }) := by rw [DM.flush, if_pos hst]
    rw [e0]
    have HE := Lib.hid ef
    clear e0 ef hst
    obtain ⟨⟨v0, c0⟩, ⟨v1, c1⟩, ⟨v2, c2⟩⟩ := hD1.cell0
    obtain ⟨g1, cap1, rfl, ho1, hX1, -⟩ := hD1.now_of c1
    have hbX := hD1.cells.2.2.2
    have hzs := hD1.cells.2.2.1
    have z0 := hzs 0
    have z2 := hzs 2
    clear hzs
    have hpos := hD1.ok.pos
    have hmost := hD1.ok.most
    have hlen := hD1.ok.len
    have hltb := hD1.lt b hbX
    obtain ⟨i0, hi, hz0, hz1, hz2⟩ := info_parts info9
    have hnews := owns_news ho1
    go_wp2_with (at_builtin; refine wpList_append_lies _ rfl (.const (.slice none 0 0)) (.tmp 13) 47 rfl w1.heap.size 9 i0 _ 1 16 Try.underlying47 hi hz0 hz1 hz2 rfl (by decide) (.slice none 0 0) 0 [] rfl (World.ownsRow_nil _ _ _ _) ⟨g1, 0, none⟩ D.step.2.now.length cap1 (D.step.2.now.map .string) rfl (by simp) hnews (by simp [Value.oneCell']) (by omega) (by unfold maxLen; omega) (by omega) (Nat.le_refl _) w1.heap.size rfl ?_)
    intro g cap w3 ho3 hg3 hat3 hlt3
    obtain rfl : g = w1.heap.size := by
      rcases hat3 with h | h
      · cases h
      · exact h
    have hF3 : Frame [] w1 w3 := (Frame.refl _ _).grown hg3 (fun k hk => by cases hk)
    have q0 := hF3.cell c0 (by simp)
    have q2 := hF3.cell c2 (by simp)
    have y0 : w3.frozen? ⟨b, 0, none⟩ = false := by rw [hF3.frozen (a := ⟨b, 0, none⟩) hltb (by simp)]; exact z0
    have y2 : w3.frozen? ⟨b, 2, none⟩ = false := by rw [hF3.frozen (a := ⟨b, 2, none⟩) hltb (by simp)]; exact z2
    have hD4 := (hD1.newKept hF3 (g := w1.heap.size) (cap := cap) (l := D.step.2.now) hlen.symm (Nat.le_refl _) (owns_zero (by simpa using ho3))).noWait
    have hF4 := (((hF1.then' hF3 (by simp)).set (p := ⟨b, 0, none⟩) (.inl hbX) (.slice (some ⟨w1.heap.size, 0, none⟩) D.step.2.now.length cap)).set (p := ⟨b, 2, none⟩) (.inl hbX) (.slice none 0 0))
    have hs1 := hF1.size
    have HF := Lib.hid (And.intro hD4 hF4)
    clear hD4 hF4 hg3 ho3 hnews hlen hmost hpos hD1 hF3 hF1 ho1 c0 c1 c2 z0 z2
    go_wp2_with fail
    go_ret
    rw [HE.out]
    refine Ret.of rfl ⟨w1.heap.size :: X, by simpa using HF.out.1, by simpa using HF.out.2, fun k hk => ?_⟩
    rcases List.mem_cons.1 hk with rfl | hk
    · exact .inr hs1
    · exact .inl hk
  · have e0 : errN D.stepErr = .int .i64 10 := by simp [errN, DM.stepErr, hst]
    have ef : D.flush = (10, D.step.2) := by rw [DM.flush, if_neg hst]
    rw [e0]
    have HE := Lib.hid ef
    clear e0 ef
    go_wp2
    go_ret
    rw [HE.out]
    exact Ret.of rfl ⟨X, hD1, hF1, Fresh.refl _ _⟩

set_option maxHeartbeats 1000000 in
set_option maxRecDepth 100000 in
theorem rrestart_any (b : Nat) (X : List Nat) (D : DM) (keep : Nat) (w : World) (hD : DiskAt w 50 113 b X D) (hw : D.wait.length < 10000) (hkeep : keep < 2 ^ 64) :
    Calls Try.prog 25 #[.pointer (some ⟨b, 0, none⟩), .int .u64 (keep : Int)] w (Ret (.tuple #[]) fun w' => ∃ Y, DiskAt w' 50 113 b Y (D.restart keep) ∧ Frame X w w' ∧ Fresh w X Y) := by
  obtain ⟨-, -, ⟨v2, c2⟩⟩ := hD.cell0
  obtain ⟨hown, hvX, -⟩ := hD.wait_of c2
  have hbX := hD.cells.2.2.2
  obtain ⟨n, hn⟩ : ∃ n, n = D.wait.length := ⟨_, rfl⟩
  rw [← hn] at hown hw
  have hv2 : ∃ ao cap, v2 = .slice ao n cap := by
    rcases hown.2 with ⟨h, h0⟩ | ⟨g, cap, cur, h, _⟩
    · exact ⟨none, 0, by rw [h, h0]⟩
    · exact ⟨_, _, h⟩
  obtain ⟨ao, cap, rfl⟩ := hv2
  have HN := Lib.hid hn
  clear hn
  have a0 : (0 : Int) ≤ (n : Int) := by omega
  have a1 : (n : Int) < 10000 := by omega
  go_enter Try.func25, Try.ntmps25
  go_wp2_with fail
  go_loopw [4] (fun i wr => ∃ k : Nat, k ≤ n ∧ i = .int .i64 (k : Int) ∧ DiskAt wr 50 113 b X { D with kept := keepFrom keep 0 (D.wait.take k) D.kept } ∧ Frame X w wr ∧ wr.cell? ⟨b, 2, none⟩ = some (.slice ao n cap)) (fun i _ => n - (intOf i).toNat)
  case atStart => exact ⟨0, by omega, rfl, hD, Frame.refl _ _, c2⟩
  case round =>
    obtain ⟨k, hk, rfl, hDk, hFk, c2k⟩ := hrel
    by_cases hlt : k < n
    · have b0 : (0 : Int) ≤ (k : Int) := by omega
      have b1 : (k : Int) < (n : Int) := by omega
      obtain ⟨hownk, -, -⟩ := hDk.wait_of c2k
      have hlen : (D.wait.length) = n := HN.out.symm
      obtain ⟨t, ht⟩ : ∃ t, D.wait[k]? = some t := ⟨_, List.getElem?_eq_getElem (by omega)⟩
      obtain ⟨at_, s⟩ := t
      have hat := hDk.ok.at_ (at_, s) (List.mem_of_getElem? ht)
      simp only [hlen] at hownk
      obtain ⟨g, cap', cur, hv, -, -, -⟩ := owns_open hownk (by omega)
      cases hv
      have q0 : wr.cell? ⟨g, k * 2, none⟩ = some (.int .i64 (at_ : Int)) := (owns_cell hownk (by omega)).trans (waitCells_get _ _ _ ht).1
      have q1 : wr.cell? ⟨g, k * 2 + 1, none⟩ = some (.string s) := (owns_cell hownk (by omega)).trans (waitCells_get _ _ _ ht).2
      have HT := Lib.hid ht
      clear hlen ht hownk hvX hown c2
      obtain ⟨m, hm⟩ : ∃ m, m = k % 64 := ⟨_, rfl⟩
      have hmk : (k : Int) % 64 = (m : Int) := by omega
      have hshr := fun w => run_shr keep m (by omega) 35 .u64 w
      have hbit := bit_of keep m hkeep
      have HM := Lib.hid hm
      clear hm
      have hcast : ((keep / 2 ^ m : Nat) : Int) = (keep : Int) / 2 ^ m := by simp
      rw [hcast] at hbit
      simp only [hcast] at hshr
      clear hcast
      have HK := Lib.hid hkeep
      clear hkeep
      by_cases hb : keep.testBit m = true
      · rw [if_pos hb] at hbit
        have HB := Lib.hid hb
        clear hb
        go_wp2_with fail
        obtain ⟨⟨v0, c0⟩, -, -⟩ := hDk.cell0
        obtain ⟨g0, cap0, rfl, ho0, hX0, -, hz0, hcs0, hset⟩ := hDk.kept_of c0
        have hlk := hDk.ok.len
        have e0 : at_ < (keepFrom keep 0 (D.wait.take k) D.kept).length := by
          have h1 := hat
          simp only at hlk h1
          omega
        have z0 := hz0 at_
        have p0 := hcs0 at_ e0
        have hD2 := (hset at_ s e0).drew
        have hF2 := (hFk.set (p := ⟨g0, at_, none⟩) (.inl hX0) (.string s)).drew
        have hgb : g0 ≠ b := fun e => hDk.ne_kept c0 (by rw [← e]; rfl)
        have c2' : (wr.setCell ⟨g0, at_, none⟩ (.string s)).drew.cell? ⟨b, 2, none⟩ = some (.slice (some ⟨g, 0, none⟩) n cap) := by
          have h1 : (wr.setCell ⟨g0, at_, none⟩ (.string s)).cell? ⟨b, 2, none⟩ = _ := World.cell?_of_block (heap_set_other _ _ _ (Ne.symm hgb))
          exact h1.trans c2k
        have HS := Lib.hid (And.intro hD2 (And.intro hF2 c2'))
        clear hD2 hF2 c2' hset
        generalize hl0 : (keepFrom keep 0 (D.wait.take k) D.kept).length = l0 at *
        have HL := Lib.hid hl0
        clear hl0 hz0 hcs0 hlk ho0 hbit hshr hmk
        have a2 : (0 : Int) ≤ (at_ : Int) := by omega
        have a3 : (at_ : Int) < (l0 : Int) := by omega
        refine wp_region_plan (fun w2 => w2 = wr.drew) 59 [([0, 4, 8, 12, 16, 1, 5, 13, 2, 6, 14, 3, 7, 15, 9, 17, 10, 18, 11, 19, 20], [21], false)] (by kernel_rfl) (by kernel_rfl) ?_
        apply wpStages_last
        case hT => rfl
        case hn => exact Nat.le_refl _
        case hq =>
          rintro w2 rfl
          simp only [picked, List.filterMap_cons, List.filterMap_nil, List.getElem?_cons_zero, List.getElem?_cons_succ]
          repeat still_step
          exact wpStill_nil rfl
        simp only [picked, List.filterMap_cons, List.filterMap_nil, List.getElem?_cons_zero, List.getElem?_cons_succ]
        go_wp2_with fail
        refine OnlyNormal.mk ?_
        go_wp2_with fail
        go_roundw
        case rel =>
          obtain ⟨hD2, hF2, c2'⟩ := HS.out
          refine ⟨k + 1, by omega, by go_num, ?_, hF2, c2'⟩
          have e1 : D.wait.take (k + 1) = D.wait.take k ++ [(at_, s)] := by rw [List.take_add_one, HT.out]; rfl
          have e2 : (D.wait.take k).length = k := by have := HN.out; simp; omega
          rw [e1, keepFrom_snoc, if_pos (by rw [e2, Nat.zero_add, ← HM.out]; exact HB.out)]
          exact hD2
        case measure => simp [intOf]; omega
      · rw [if_neg hb] at hbit
        have HB := Lib.hid hb
        clear hb
        go_wp2_with fail
        go_roundw
        case rel =>
          refine ⟨k + 1, by omega, by go_num, ?_, hFk, c2k⟩
          have e1 : D.wait.take (k + 1) = D.wait.take k ++ [(at_, s)] := by rw [List.take_add_one, HT.out]; rfl
          have e2 : (D.wait.take k).length = k := by have := HN.out; simp; omega
          rw [e1, keepFrom_snoc, if_neg (by rw [e2, Nat.zero_add, ← HM.out]; exact HB.out)]
          exact hDk
        case measure => simp [intOf]; omega
    · obtain rfl : k = n := by omega
      have e1 : D.wait.take k = D.wait := List.take_of_length_le (by have := HN.out; omega)
      rw [e1] at hDk
      clear e1
      generalize hl : keepFrom keep 0 D.wait D.kept = l at hDk
      have HL := Lib.hid hl
      clear hl
      obtain ⟨⟨v0, c0⟩, ⟨v1, c1⟩, -⟩ := hDk.cell0
      obtain ⟨g0, cap0, rfl, ho0, hX0, -⟩ := hDk.kept_of c0
      have hpos := hDk.ok.pos
      have hmost := hDk.ok.most
      have hlen := hDk.ok.len
      have hltb := hDk.lt b hbX
      simp only at ho0 c0 hlen hpos hmost
      rw [hlen] at ho0 c0
      have hzs := hDk.cells.2.2.1
      have z1 := hzs 1
      have z2 := hzs 2
      have z3 := hzs 3
      have z4 := hzs 4
      clear hzs
      obtain ⟨k3, k4, -, -⟩ := hDk.cells
      obtain ⟨i0, hi, hz0, hz1, hz2⟩ := info_parts info9
      have hnews := owns_news ho0
      go_wp2_with (at_builtin; refine wpList_append_lies _ rfl (.const (.slice none 0 0)) (.tmp 46) 47 rfl wr.heap.size 9 i0 _ 1 16 Try.underlying47 hi hz0 hz1 hz2 rfl (by decide) (.slice none 0 0) 0 [] rfl (World.ownsRow_nil _ _ _ _) ⟨g0, 0, none⟩ D.now.length cap0 (l.map .string) rfl (by simp [hlen]) hnews (by simp [Value.oneCell']) (by omega) (by unfold maxLen; omega) (by omega) (Nat.le_refl _) wr.heap.size rfl ?_)
      intro g cap w3 ho3 hg3 hat3 hlt3
      obtain rfl : g = wr.heap.size := by
        rcases hat3 with h | h
        · cases h
        · exact h
      have hF3 : Frame [] wr w3 := (Frame.refl _ _).grown hg3 (fun k hk => by cases hk)
      have q1 := hF3.cell c1 (by simp)
      have q2 := hF3.cell c2k (by simp)
      have q3 := hF3.cell k3 (by simp)
      have q4 := hF3.cell k4 (by simp)
      have y (i : Nat) : w3.frozen? ⟨b, i, none⟩ = wr.frozen? ⟨b, i, none⟩ := hF3.frozen (a := ⟨b, i, none⟩) hltb (by simp)
      have y1 := (y 1).trans z1
      have y2 := (y 2).trans z2
      have y3 := (y 3).trans z3
      have y4 := (y 4).trans z4
      clear y
      have ho3' : w3.ownsRow 0 9 1 (.slice (some ⟨wr.heap.size, 0, none⟩) l.length cap) l.length (l.map .string) := by rw [hlen]; exact owns_zero (by simpa using ho3)
      have hD4 := (((hDk.newNow hF3 (g := wr.heap.size) (cap := cap) (l := l) hlen (Nat.le_refl _) ho3').noWait).setDown false).setFuse (-1) (by omega) (by omega)
      rw [hlen] at hD4
      have hF4 := (((((hFk.then' hF3 (by simp)).set (p := ⟨b, 1, none⟩) (.inl hbX) (.slice (some ⟨wr.heap.size, 0, none⟩) D.now.length cap)).set (p := ⟨b, 2, none⟩) (.inl hbX) (.slice none 0 0)).set (p := ⟨b, 4, none⟩) (.inl hbX) (.bool false)).set (p := ⟨b, 3, none⟩) (.inl hbX) (.int .i64 (-1)))
      have hs1 := hFk.size
      have HF := Lib.hid (And.intro hD4 hF4)
      clear hD4 hF4 hg3 ho3 ho3' hnews hlen hmost hpos hDk hF3 hFk ho0 c0 c1 c2k z1 z2 z3 z4 k3 k4
      go_wp2_with fail
      go_end0
      refine Ret.of rfl ⟨wr.heap.size :: X, ?_, by simpa using HF.out.2, fun k hk => ?_⟩
      · have := HF.out.1
        unfold DM.restart
        rw [HL.out]
        simpa using this
      · rcases List.mem_cons.1 hk with rfl | hk
        · exact .inr hs1
        · exact .inl hk
/-- A disk of the document in the making: kk sectors are laid in the one row, kn in the other one. -/
def Making (w : World) (b kk kn : Nat) (z : ByteArray) (vk vn : Value) : Prop := w.heap[b]? = some (.cells #[vk, vn, .slice none 0 0, .int .i64 (-1), .bool false] 50 (0, 0)) ∧
  w.ownsRow (b + 1) 9 1 vk kk (List.replicate kk (.string z)) ∧ w.ownsRow (b + 1) 9 1 vn kn (List.replicate kn (.string z)) ∧ ∀ g, vk.ownBlock = some g → vn.ownBlock ≠ some g

theorem above_ne {w : World} {b n : Nat} {v : Value} {xs : List Value} (h : w.ownsRow (b + 1) 9 1 v n xs) : v.ownBlock ≠ some b := fun e => by
  have := (h.lt _ e).1
  omega

theorem replicate_snoc {n : Nat} {u : Value} : List.replicate n u ++ [u] = List.replicate (n + 1) u := by rw [List.replicate_succ']

theorem Making.kept {w w4 : World} {b kk kn g cap : Nat} {z : ByteArray} {vk vn : Value} (h : Making w b kk kn z vk vn) (hf : Frame vk.ownBlock.toList w w4)
    (ho : w4.ownsRow (b + 1) 9 1 (.slice (some ⟨g, 0, none⟩) (kk + 1) cap) (kk + 1) (List.replicate kk (.string z) ++ [.string z])) (hat : vk.ownBlock = some g ∨ w.heap.size ≤ g) :
    Making (w4.setCell ⟨b, 0, none⟩ (.slice (some ⟨g, 0, none⟩) (kk + 1) cap)) b (kk + 1) kn z (.slice (some ⟨g, 0, none⟩) (kk + 1) cap) vn := by
  obtain ⟨h1, h2, h3, h4⟩ := h
  have hkb := above_ne h2
  have hnb := above_ne h3
  have hgb := above_ne ho
  refine ⟨by rw [heap_set_same 0 _ (hf.heap h1 (by simpa using hkb))]; rfl, ?_, owns_of_heap h3 fun k e => ?_, fun k e e2 => ?_⟩
  · rw [← replicate_snoc]
    exact owns_of_heap ho fun k e => heap_set_other _ _ _ (fun hk => hgb (by rw [← (show k = b from hk)]; exact e))
  · obtain ⟨cur, hcur⟩ := owns_lt h3 e
    rw [heap_set_other _ _ _ (fun hk => hnb (by rw [← (show k = b from hk)]; exact e))]
    exact hf.block k (lt_of_heap hcur) (fun hk => h4 k (by simpa using hk) e)
  · cases e
    obtain ⟨cur, hcur⟩ := owns_lt h3 e2
    rcases hat with h | h
    · exact h4 _ h e2
    · have h5 : g < w.heap.size := lt_of_heap hcur
      omega

theorem Making.now {w w4 : World} {b kk kn g cap : Nat} {z : ByteArray} {vk vn : Value} (h : Making w b kk kn z vk vn) (hf : Frame vn.ownBlock.toList w w4)
    (ho : w4.ownsRow (b + 1) 9 1 (.slice (some ⟨g, 0, none⟩) (kn + 1) cap) (kn + 1) (List.replicate kn (.string z) ++ [.string z])) (hat : vn.ownBlock = some g ∨ w.heap.size ≤ g) :
    Making (w4.setCell ⟨b, 1, none⟩ (.slice (some ⟨g, 0, none⟩) (kn + 1) cap)) b kk (kn + 1) z vk (.slice (some ⟨g, 0, none⟩) (kn + 1) cap) := by
  obtain ⟨h1, h2, h3, h4⟩ := h
  have hkb := above_ne h2
  have hnb := above_ne h3
  have hgb := above_ne ho
  refine ⟨by rw [heap_set_same 1 _ (hf.heap h1 (by simpa using hnb))]; rfl, owns_of_heap h2 fun k e => ?_, ?_, fun k e e2 => ?_⟩
  · obtain ⟨cur, hcur⟩ := owns_lt h2 e
    rw [heap_set_other _ _ _ (fun hk => hkb (by rw [← (show k = b from hk)]; exact e))]
    exact hf.block k (lt_of_heap hcur) (fun hk => h4 k e (by simpa using hk))
  · rw [← replicate_snoc]
    exact owns_of_heap ho fun k e => heap_set_other _ _ _ (fun hk => hgb (by rw [← (show k = b from hk)]; exact e))
  · cases e2
    obtain ⟨cur, hcur⟩ := owns_lt h2 e
    rcases hat with h | h
    · exact h4 _ e h
    · have h5 : g < w.heap.size := lt_of_heap hcur
      omega

set_option maxHeartbeats 1000000 in
set_option maxRecDepth 100000 in
theorem rnew_good (n : Nat) (w : World) (h1 : 1 ≤ n) (hn : n ≤ 130) :
    Calls Try.prog 14 #[.int .i64 (n : Int)] w (RetV fun v w' => ∃ b X, v = .tuple #[.pointer (some ⟨b, 0, none⟩), .int .i64 0] ∧ DiskAt w' 50 113 b X (DM.new n) ∧ Below w.heap.size w w' ∧ ∀ k ∈ X, w.heap.size ≤ k) := by
  have a1 : (1 : Int) ≤ (n : Int) := by omega
  have a2 : (n : Int) ≤ 130 := by omega
  generalize hz : (⟨Array.replicate 140 0⟩ : ByteArray) = z
  have HZ := Lib.hid hz
  clear hz
  go_enter Try.func14, Try.ntmps14
  go_wp2_with fail
  go_loopw [5] (fun i wr => ∃ k : Nat, k ≤ n ∧ i = .int .i64 (k : Int) ∧ (∃ vk vn, Making wr w.heap.size k k z vk vn) ∧ Below w.heap.size w wr) (fun i _ => n - (intOf i).toNat)
  case atStart =>
    refine ⟨0, by omega, rfl, ⟨.slice none 0 0, .slice none 0 0, heap_alloc_new w _, World.ownsRow_nil _ _ _ _, World.ownsRow_nil _ _ _ _, by intro g h; cases h⟩, (Below.refl _ _).alloc (Nat.le_refl _) _⟩
  case round =>
    obtain ⟨k, hk, rfl, ⟨vk, vn, hM⟩, hBk⟩ := hrel
    have b0 : (0 : Int) ≤ (k : Int) := by omega
    by_cases hlt : k < n
    · have b1 : (k : Int) < (n : Int) := by omega
      have c0 : wr.cell? ⟨w.heap.size, 0, none⟩ = some vk := by rw [cell_of hM.1]; rfl
      have hlb := lt_of_heap hM.1
      have hkb := above_ne hM.2.1
      obtain ⟨i0, hi, hz0, hz1, hz2⟩ := info_parts info9
      go_wp2_with fail
      refine wp_region_plan (fun w2 => w2.cell? ⟨w.heap.size, 0, none⟩ = some vk) 40 [([0, 1, 2, 3, 4], [5], true), ([], [6], true), ([], [7], true), ([8, 9], [10], false)] (by kernel_rfl) (by kernel_rfl) ?_
      apply wpStages_keep
      case hT => exact c0
      case hn => exact Nat.le_refl _
      case hq =>
        intro w2 hT
        simp only [picked, List.filterMap_cons, List.filterMap_nil, List.getElem?_cons_zero, List.getElem?_cons_succ]
        repeat still_step
        exact wpStill_nil rfl
      simp only [picked, List.filterMap_cons, List.filterMap_nil, List.getElem?_cons_zero, List.getElem?_cons_succ]
      go_wp2_with fail
      refine (noughts_any 140 _ (by omega)).mono ?_
      rintro e w2 ⟨rfl, hB2⟩
      rw [HZ.out]
      have hF2 := (Frame.of_below [] hB2).drew'
      clear hB2
      go_wp2_with fail
      refine OnlyNormal.mk ⟨hF2.cell c0 (by simp), ?_⟩
      apply wpStages_seqkeep
      simp only [picked, List.filterMap_cons, List.filterMap_nil, List.getElem?_cons_zero, List.getElem?_cons_succ]
      go_wp2_with fail
      have hF3 := hF2.alloc (.cells #[.string z] 9)
      refine OnlyNormal.mk ⟨hF3.cell c0 (by simp), ?_⟩
      apply wpStages_seqkeep
      simp only [picked, List.filterMap_cons, List.filterMap_nil, List.getElem?_cons_zero, List.getElem?_cons_succ]
      refine wpList_append_lies _ rfl (.tmp 23) (.tmp 25) 47 rfl (w.heap.size + 1) 9 i0 _ 1 16 Try.underlying47 hi hz0 hz1 hz2 rfl (by decide) vk k _ rfl (owns_frame hM.2.1 hF3 (by simp)) ⟨w2.heap.size, 0, none⟩ 1 1 [.string z] rfl rfl (World.news_of_block (cs := #[.string z]) (heap_alloc_new w2 _)) (by simp [Value.oneCell']) (by decide) (by unfold maxLen; omega) (by omega) (by have := hF3.size; omega) (w2.heap.size + 1) (size_alloc _ _) ?_
      intro g4 cap4 w4 ho4 hg4 hat4 hlt4
      have hF4 : Frame vk.ownBlock.toList wr w4 := (hF3.mono (by simp)).grown hg4 (fun k hk => .inl (by simp [hk]))
      have hsz4 := hF2.size
      have hM4 := hM.kept hF4 ho4 (hat4.imp id (fun h => by omega))
      have hB4 : Below w.heap.size w (w4.setCell ⟨w.heap.size, 0, none⟩ (.slice (some ⟨g4, 0, none⟩) (k + 1) cap4)) :=
        (hBk.trans (hF4.below (by omega) (fun k hk => by have := (hM.2.1.lt k (by simpa using hk)).1; omega))).setCell (Nat.le_refl _) _
      have q4 := hF4.cell c0 (by simpa using hkb)
      have z4 : w4.frozen? ⟨w.heap.size, 0, none⟩ = false := frozen_of (hF4.heap hM.1 (by simpa using hkb)) 0
      have hsz5 := hF4.size
      clear hF2 hF3 hF4 hg4 hat4 ho4 c0
      refine wpList_nil (OnlyNormal.mk ⟨q4, ?_⟩)
      apply wpStages_last
      case hT => exact q4
      case hn => exact Nat.le_refl _
      case hq =>
        intro w5 hT
        simp only [picked, List.filterMap_cons, List.filterMap_nil, List.getElem?_cons_zero, List.getElem?_cons_succ]
        repeat still_step
        exact wpStill_nil rfl
      simp only [picked, List.filterMap_cons, List.filterMap_nil, List.getElem?_cons_zero, List.getElem?_cons_succ]
      go_wp2_with fail
      refine OnlyNormal.mk ?_
      clear q4 z4 hM hBk
      generalize w4.setCell ⟨w.heap.size, 0, none⟩ (.slice (some ⟨g4, 0, none⟩) (k + 1) cap4) = wm at *
      generalize Value.slice (some ⟨g4, 0, none⟩) (k + 1) cap4 = vk' at *
      have c1 : wm.cell? ⟨w.heap.size, 1, none⟩ = some vn := by rw [cell_of hM4.1]; rfl
      have hM := hM4
      have hBk := hB4
      have hlb := lt_of_heap hM.1
      have hkb := above_ne hM.2.2.1
      clear hM4 hB4 hsz4 hsz5
      go_wp2_with fail
      refine wp_region_plan (fun w2 => w2.cell? ⟨w.heap.size, 1, none⟩ = some vn) 40 [([0, 1, 2, 3, 4], [5], true), ([], [6], true), ([], [7], true), ([8, 9], [10], false)] (by kernel_rfl) (by kernel_rfl) ?_
      apply wpStages_keep
      case hT => exact c1
      case hn => exact Nat.le_refl _
      case hq =>
        intro w2 hT
        simp only [picked, List.filterMap_cons, List.filterMap_nil, List.getElem?_cons_zero, List.getElem?_cons_succ]
        repeat still_step
        exact wpStill_nil rfl
      simp only [picked, List.filterMap_cons, List.filterMap_nil, List.getElem?_cons_zero, List.getElem?_cons_succ]
      go_wp2_with fail
      refine (noughts_any 140 _ (by omega)).mono ?_
      rintro e w2 ⟨rfl, hB2⟩
      rw [HZ.out]
      have hF2 := (Frame.of_below [] hB2).drew'
      clear hB2
      go_wp2_with fail
      refine OnlyNormal.mk ⟨hF2.cell c1 (by simp), ?_⟩
      apply wpStages_seqkeep
      simp only [picked, List.filterMap_cons, List.filterMap_nil, List.getElem?_cons_zero, List.getElem?_cons_succ]
      go_wp2_with fail
      have hF3 := hF2.alloc (.cells #[.string z] 9)
      refine OnlyNormal.mk ⟨hF3.cell c1 (by simp), ?_⟩
      apply wpStages_seqkeep
      simp only [picked, List.filterMap_cons, List.filterMap_nil, List.getElem?_cons_zero, List.getElem?_cons_succ]
      refine wpList_append_lies _ rfl (.tmp 33) (.tmp 35) 47 rfl (w.heap.size + 1) 9 i0 _ 1 16 Try.underlying47 hi hz0 hz1 hz2 rfl (by decide) vn k _ rfl (owns_frame hM.2.2.1 hF3 (by simp)) ⟨w2.heap.size, 0, none⟩ 1 1 [.string z] rfl rfl (World.news_of_block (cs := #[.string z]) (heap_alloc_new w2 _)) (by simp [Value.oneCell']) (by decide) (by unfold maxLen; omega) (by omega) (by have := hF3.size; omega) (w2.heap.size + 1) (size_alloc _ _) ?_
      intro g4 cap4 w4 ho4 hg4 hat4 hlt4
      have hF4 : Frame vn.ownBlock.toList wm w4 := (hF3.mono (by simp)).grown hg4 (fun k hk => .inl (by simp [hk]))
      have hsz4 := hF2.size
      have hM4 := hM.now hF4 ho4 (hat4.imp id (fun h => by omega))
      have hB4 : Below w.heap.size w (w4.setCell ⟨w.heap.size, 1, none⟩ (.slice (some ⟨g4, 0, none⟩) (k + 1) cap4)) :=
        (hBk.trans (hF4.below (by omega) (fun k hk => by have := (hM.2.2.1.lt k (by simpa using hk)).1; omega))).setCell (Nat.le_refl _) _
      have q4 := hF4.cell c1 (by simpa using hkb)
      have z4 : w4.frozen? ⟨w.heap.size, 1, none⟩ = false := frozen_of (hF4.heap hM.1 (by simpa using hkb)) 1
      have hsz5 := hF4.size
      clear hF2 hF3 hF4 hg4 hat4 ho4 c1
      refine wpList_nil (OnlyNormal.mk ⟨q4, ?_⟩)
      apply wpStages_last
      case hT => exact q4
      case hn => exact Nat.le_refl _
      case hq =>
        intro w5 hT
        simp only [picked, List.filterMap_cons, List.filterMap_nil, List.getElem?_cons_zero, List.getElem?_cons_succ]
        repeat still_step
        exact wpStill_nil rfl
      simp only [picked, List.filterMap_cons, List.filterMap_nil, List.getElem?_cons_zero, List.getElem?_cons_succ]
      go_wp2_with fail
      refine OnlyNormal.mk ?_
      clear q4 z4
      go_wp2_with fail
      go_roundw
      case rel => exact ⟨k + 1, by omega, by go_num, ⟨_, _, hM4⟩, hB4⟩
      case measure => simp [intOf]; omega
    · obtain rfl : k = n := by omega
      go_wp2_with fail
      go_ret2
      obtain ⟨m1, m2, m3, m4⟩ := hM
      obtain ⟨g2, cap2, cur2, rfl, hg2, hh2, -⟩ := owns_open m2 h1
      obtain ⟨g3, cap3, cur3, rfl, hg3, hh3, -⟩ := owns_open m3 h1
      have e2 : List.replicate k (Value.string z) = (List.replicate k z).map .string := by simp
      have eZ : (DM.new k).kept = List.replicate k z ∧ (DM.new k).now = List.replicate k z := by
        have e : padTo 140 ByteArray.empty = z := by rw [← HZ.out]; rfl
        rw [← e]
        exact ⟨rfl, rfl⟩
      refine RetV.of ⟨w.heap.size, [w.heap.size, g2, g3], rfl, ⟨⟨_, _, .slice none 0 0, m1, ?_, ?_, World.ownsRow_nil _ _ _ _, m4, by simp, ?_, ?_, by simp [Value.ownBlock]⟩, ?_, by decide, DM.new_ok k h1 hn⟩, hBk, ?_⟩
      · rw [eZ.1, ← e2]
        simpa using owns_zero m2
      · rw [eZ.2, ← e2]
        simpa using owns_zero m3
      · intro x hx
        have e2 : g2 = x := by simpa [Value.ownBlock] using hx
        simp [e2]
      · intro x hx
        have e3 : g3 = x := by simpa [Value.ownBlock] using hx
        simp [e3]
      · intro x hx
        have := lt_of_heap hh2
        have := lt_of_heap hh3
        have := lt_of_heap m1
        simp at hx
        omega
      · intro x hx
        simp at hx
        omega

set_option maxHeartbeats 400000 in
theorem rnew_bad (n : Int) (w : World) (h : n < 1 ∨ 130 < n) :
    Calls Try.prog 14 #[.int .i64 n] w (Ret (.tuple #[.pointer none, .int .i64 1]) fun w' => w = w') := by
  by_cases h1 : n < 1
  · clear h
    go_enter Try.func14, Try.ntmps14
    go_wp2
    go_ret2
    exact Ret.of rfl rfl
  · have h2 : 130 < n := by omega
    clear h
    go_enter Try.func14, Try.ntmps14
    go_wp2
    go_ret2
    exact Ret.of rfl rfl

end Go.Proofs.Ytkapmpngglibjaa
