/- The disk is started anew: of what waits the kept ones are there. Conditions: what waits are fewer than 10000 writes. -/
import Derived.Test.YtkapmpngglibjaaDiskR
namespace Go.Proofs.Ytkapmpngglibjaa
open Go Go.RowKit

theorem keepFrom_length (keep : Nat) : ∀ (l : List (Nat × ByteArray)) (i : Nat) (r : List ByteArray), (keepFrom keep i l r).length = r.length
  | [], _, _ => rfl
  | t :: l, i, r => by
    rw [keepFrom, keepFrom_length keep l]
    split <;> simp

theorem keepFrom_snoc (keep : Nat) (t : Nat × ByteArray) : ∀ (l : List (Nat × ByteArray)) (i : Nat) (r : List ByteArray), keepFrom keep i (l ++ [t]) r =
    if keep.testBit ((i + l.length) % 64) then (keepFrom keep i l r).set t.1 t.2 else keepFrom keep i l r
  | [], i, r => rfl
  | x :: l, i, r => by
    rw [List.cons_append, keepFrom, keepFrom_snoc keep t l, keepFrom]
    simp only [List.length_cons]
    rw [show i + 1 + l.length = i + (l.length + 1) by omega]

theorem waitCells_get : ∀ (l : List (Nat × ByteArray)) (k : Nat) (t : Nat × ByteArray), l[k]? = some t → (waitCells l)[k * 2]? = some (.int .i64 (t.1 : Int)) ∧ (waitCells l)[k * 2 + 1]? = some (.string t.2)
  | x :: l, 0, t, h => by
    simp only [List.getElem?_cons_zero, Option.some.injEq] at h
    subst h
    exact ⟨rfl, rfl⟩
  | x :: l, k + 1, t, h => by
    have := waitCells_get l k t (by simpa using h)
    rw [show (k + 1) * 2 = k * 2 + 1 + 1 by omega]
    exact this

theorem DiskAt.ne_kept {w : World} {T tw b : Nat} {X : List Nat} {D : DM} (h : DiskAt w T tw b X D) {v : Value} (hc : w.cell? ⟨b, 0, none⟩ = some v) : v.ownBlock ≠ some b := by
  obtain ⟨⟨vk, vn, vw, g1, g2, _⟩, _, hty, _⟩ := h
  rw [cell_of g1] at hc
  obtain rfl : vk = v := by simpa using hc
  exact ownBlock_ne g2 g1 hty.1

theorem run_shr (x : Nat) (m : Nat) (hm : m < 64) (t : TypeId) (k : IntKind) (w : World) :
    (binOp .shr t (.int .u64 (x : Int)) (.int k (m : Int))).run Try.prog w = Result.ok (.int .u64 ((x / 2 ^ m : Nat) : Int)) w := by
  have h := shift_shr_u64 k (x : Int) (m : Int) (by omega) (by omega)
  simp only [binOp, h]
  simp
theorem bit_of (x m : Nat) (hx : x < 2 ^ 64) : bits BinOp.and IntKind.u64 ((x / 2 ^ m : Nat) : Int) 1 = if x.testBit m then 1 else 0 := by
  have hle : x / 2 ^ m ≤ x := Nat.div_le_self _ _
  rw [Nat.testBit_eq_decide_div_mod_eq]
  generalize x / 2 ^ m = q at *
  rw [and_one_u64 _ (by omega) (by omega)]
  by_cases h : q % 2 = 1
  · simp [h]; omega
  · simp [h]; omega

set_option maxHeartbeats 1000000 in
set_option maxRecDepth 100000 in
theorem restart_any (b : Nat) (X : List Nat) (D : DM) (keep : Nat) (w : World) (hD : DiskAt w 107 111 b X D) (hw : D.wait.length < 10000) (hkeep : keep < 2 ^ 64) :
    Calls Try.prog 24 #[.pointer (some ⟨b, 0, none⟩), .int .u64 (keep : Int)] w (Ret (.tuple #[]) fun w' => DiskAt w' 107 111 b X (D.restart keep) ∧ Frame X w w') := by
  obtain ⟨-, -, ⟨v2, c2⟩⟩ := hD.cell0
  obtain ⟨hown, hvX, -⟩ := hD.wait_of c2
  have hbX := hD.cells.2.2.2
  obtain ⟨n, hn⟩ : ∃ n, n = D.wait.length := ⟨_, rfl⟩
  rw [← hn] at hown hw
  have hv2 : ∃ ao cap, v2 = .slice ao n cap := by
    rcases hown.2 with ⟨h, h0⟩ | ⟨g, cap, cur, h, _⟩
    · exact ⟨none, 0, by rw [h, h0]⟩
    · exact ⟨_, _, h⟩
  obtain ⟨ao, cap, rfl⟩ := hv2
  have HN := Lib.hid hn
  clear hn
  have a0 : (0 : Int) ≤ (n : Int) := by omega
  have a1 : (n : Int) < 10000 := by omega
  go_enter Try.func24, Try.ntmps24
  go_wp2_with fail
  go_loopw [11] (fun i wr => ∃ k : Nat, k ≤ n ∧ i = .int .i64 (k : Int) ∧ DiskAt wr 107 111 b X { D with kept := keepFrom keep 0 (D.wait.take k) D.kept } ∧ Frame X w wr ∧ wr.cell? ⟨b, 2, none⟩ = some (.slice ao n cap)) (fun i _ => n - (intOf i).toNat)
  case atStart => exact ⟨0, by omega, rfl, hD, Frame.refl _ _, c2⟩
  case round =>
    obtain ⟨k, hk, rfl, hDk, hFk, c2k⟩ := hrel
    by_cases hlt : k < n
    · have b0 : (0 : Int) ≤ (k : Int) := by omega
      have b1 : (k : Int) < (n : Int) := by omega
      obtain ⟨hownk, -, -⟩ := hDk.wait_of c2k
      have hlen : (D.wait.length) = n := HN.out.symm
      obtain ⟨t, ht⟩ : ∃ t, D.wait[k]? = some t := ⟨_, List.getElem?_eq_getElem (by omega)⟩
      obtain ⟨at_, s⟩ := t
      have hat := hDk.ok.at_ (at_, s) (List.mem_of_getElem? ht)
      simp only [hlen] at hownk
      obtain ⟨g, cap', cur, hv, -, -, -⟩ := owns_open hownk (by omega)
      cases hv
      have q0 : wr.cell? ⟨g, k * 2, none⟩ = some (.int .i64 (at_ : Int)) := (owns_cell hownk (by omega)).trans (waitCells_get _ _ _ ht).1
      have q1 : wr.cell? ⟨g, k * 2 + 1, none⟩ = some (.string s) := (owns_cell hownk (by omega)).trans (waitCells_get _ _ _ ht).2
      have HT := Lib.hid ht
      clear hlen ht hownk hvX hown c2
      obtain ⟨m, hm⟩ : ∃ m, m = k % 64 := ⟨_, rfl⟩
      have hmk : (k : Int) % 64 = (m : Int) := by omega
      have hshr := fun w => run_shr keep m (by omega) 35 .i64 w
      have hbit := bit_of keep m hkeep
      have HM := Lib.hid hm
      clear hm
      have hcast : ((keep / 2 ^ m : Nat) : Int) = (keep : Int) / 2 ^ m := by simp
      rw [hcast] at hbit
      simp only [hcast] at hshr
      clear hcast
      have HK := Lib.hid hkeep
      clear hkeep
      by_cases hb : keep.testBit m = true
      · rw [if_pos hb] at hbit
        have HB := Lib.hid hb
        clear hb
        go_wp2_with fail
        obtain ⟨⟨v0, c0⟩, -, -⟩ := hDk.cell0
        obtain ⟨g0, cap0, rfl, ho0, hX0, -, hz0, hcs0, hset⟩ := hDk.kept_of c0
        have hlk := hDk.ok.len
        have e0 : at_ < (keepFrom keep 0 (D.wait.take k) D.kept).length := by
          have h1 := hat
          simp only at hlk h1
          omega
        have z0 := hz0 at_
        have p0 := hcs0 at_ e0
        have hFa := (Frame.refl [] wr).alloc (.cells #[.int .i64 (at_ : Int), .string s] 111)
        have hDa := hDk.frame hFa (by simp)
        obtain ⟨g0', cap0', hv0, -, -, -, -, -, hset⟩ := hDa.kept_of (hFa.cell c0 (by simp))
        cases hv0
        have hD2 := (hset at_ s e0).drew
        have hF2 := ((hFk.alloc (.cells #[.int .i64 (at_ : Int), .string s] 111)).set (p := ⟨g0, at_, none⟩) (.inl hX0) (.string s)).drew
        have hgb : g0 ≠ b := fun e => hDk.ne_kept c0 (by rw [← e]; rfl)
        have c2' : ((wr.alloc (.cells #[.int .i64 (at_ : Int), .string s] 111)).setCell ⟨g0, at_, none⟩ (.string s)).drew.cell? ⟨b, 2, none⟩ = some (.slice (some ⟨g, 0, none⟩) n cap) := by
          have h1 : ((wr.alloc (.cells #[.int .i64 (at_ : Int), .string s] 111)).setCell ⟨g0, at_, none⟩ (.string s)).cell? ⟨b, 2, none⟩ = _ := World.cell?_of_block (heap_set_other _ _ _ (Ne.symm hgb))
          exact h1.trans (hFa.cell c2k (by simp))
        have HS := Lib.hid (And.intro hD2 (And.intro hF2 c2'))
        clear hD2 hF2 c2' hDa hFa hset
        generalize hl0 : (keepFrom keep 0 (D.wait.take k) D.kept).length = l0 at *
        have HL := Lib.hid hl0
        clear hl0 hz0 hcs0 hset hlk ho0 hbit hshr hmk
        have hnew : g0 ≠ wr.heap.size := fun e => by
          have := hDk.lt g0 hX0
          omega
        have hbn : b ≠ wr.heap.size := fun e => by
          have := hDk.lt b hbX
          omega
        have a2 : (0 : Int) ≤ (at_ : Int) := by omega
        have a3 : (at_ : Int) < (l0 : Int) := by omega
        refine wp_region_plan (fun w2 => w2 = (wr.alloc (.cells #[.int .i64 (at_ : Int), .string s] 111)).drew) 50 [([0, 4, 6, 1, 5, 7, 2, 3, 8], [9], false)] (by kernel_rfl) (by kernel_rfl) ?_
        apply wpStages_last
        case hT => rfl
        case hn => exact Nat.le_refl _
        case hq =>
          rintro w2 rfl
          have k0 : ((wr.alloc (.cells #[.int .i64 (at_ : Int), .string s] 111)).drew).cell? ⟨b, 0, none⟩ = some (.slice (some ⟨g0, 0, none⟩) l0 cap0) := (((Frame.refl [] wr).alloc _).drew).cell c0 (by simp)
          simp only [picked, List.filterMap_cons, List.filterMap_nil, List.getElem?_cons_zero, List.getElem?_cons_succ]
          repeat still_step
          exact wpStill_nil rfl
        simp only [picked, List.filterMap_cons, List.filterMap_nil, List.getElem?_cons_zero, List.getElem?_cons_succ]
        have p1 : ((wr.alloc (.cells #[.int .i64 (at_ : Int), .string s] 111)).drew).cell? ⟨g0, at_, none⟩ = _ := (((Frame.refl [] wr).alloc _).drew).cell p0 (by simp)
        have z1 : ((wr.alloc (.cells #[.int .i64 (at_ : Int), .string s] 111)).drew).frozen? ⟨g0, at_, none⟩ = false := by
          rw [(((Frame.refl [] wr).alloc _).drew).frozen (a := ⟨g0, at_, none⟩) (hDk.lt g0 hX0) (by simp)]; exact z0
        go_wp2_with fail
        refine OnlyNormal.mk ?_
        go_wp2_with fail
        go_roundw
        case rel =>
          obtain ⟨hD2, hF2, c2'⟩ := HS.out
          refine ⟨k + 1, by omega, by go_num, ?_, hF2, c2'⟩
          have e1 : D.wait.take (k + 1) = D.wait.take k ++ [(at_, s)] := by rw [List.take_add_one, HT.out]; rfl
          have e2 : (D.wait.take k).length = k := by have := HN.out; simp; omega
          rw [e1, keepFrom_snoc, if_pos (by rw [e2, Nat.zero_add, ← HM.out]; exact HB.out)]
          exact hD2
        case measure => simp [intOf]; omega
      · rw [if_neg hb] at hbit
        have HB := Lib.hid hb
        clear hb
        go_wp2_with fail
        have hFa := (Frame.refl [] wr).alloc (.cells #[.int .i64 (at_ : Int), .string s] 111)
        have hDa := hDk.frame hFa (by simp)
        go_roundw
        case rel =>
          refine ⟨k + 1, by omega, by go_num, ?_, hFk.trans (hFa.mono (by simp)), hFa.cell c2k (by simp)⟩
          have e1 : D.wait.take (k + 1) = D.wait.take k ++ [(at_, s)] := by rw [List.take_add_one, HT.out]; rfl
          have e2 : (D.wait.take k).length = k := by have := HN.out; simp; omega
          rw [e1, keepFrom_snoc, if_neg (by rw [e2, Nat.zero_add, ← HM.out]; exact HB.out)]
          exact hDa
        case measure => simp [intOf]; omega
    · obtain rfl : k = n := by omega
      have e1 : D.wait.take k = D.wait := List.take_of_length_le (by have := HN.out; omega)
      rw [e1] at hDk
      clear e1
      generalize hl : keepFrom keep 0 D.wait D.kept = l at hDk
      have HL := Lib.hid hl
      clear hl
      go_wp2_with fail
      obtain ⟨⟨v0, c0⟩, ⟨v1, c1⟩, -⟩ := hDk.cell0
      obtain ⟨g0, cap0, rfl, ho0, hX0, -⟩ := hDk.kept_of c0
      obtain ⟨g1, cap1, rfl, ho1, hX1, -⟩ := hDk.now_of c1
      have hlen := hDk.ok.len
      simp only at ho0 c0 ho1 c1 hlen
      rw [hlen] at ho0 c0
      refine wp_region_plan (fun w2 => Frame [] wr w2) 50 [([0, 4, 1, 5, 2, 6, 3, 7], [8], false)] (by kernel_rfl) (by kernel_rfl) ?_
      apply wpStages_last
      case hT => exact (Frame.refl _ _).drew
      case hn => exact Nat.le_refl _
      case hq =>
        intro w2 hT
        have k0 := hT.cell c0 (by simp)
        have k1 := hT.cell c1 (by simp)
        simp only [picked, List.filterMap_cons, List.filterMap_nil, List.getElem?_cons_zero, List.getElem?_cons_succ]
        repeat still_step
        exact wpStill_nil rfl
      simp only [picked, List.filterMap_cons, List.filterMap_nil, List.getElem?_cons_zero, List.getElem?_cons_succ]
      have hFd : Frame [] wr wr.drew := (Frame.refl _ _).drew
      refine wpList_copy_same rfl (.tmp 35) (.tmp 39) 47 rfl 9 Try.underlying47 size9 g1 cap1 g0 cap0 D.now.length _ _ rfl rfl (owns_frame ho1 hFd (by simp)) (owns_frame ho0 hFd (by simp)) (by simp [Value.oneCell']) ?_
      intro w3 ho3 hg3 hs3
      refine wpList_nil (OnlyNormal.mk ?_)
      have hD3 := hDk.drew.setNow (v := .slice (some ⟨g1, 0, none⟩) D.now.length cap1) (hFd.cell c1 (by simp)) (l := l) hlen (by rw [hlen]; exact ho3) hg3
      have hF3 : Frame X w w3 := (hFk.drew).grown hg3 (fun k hk => by cases hk; exact .inl hX1)
      have hz := hD3.cells.2.2.1
      have z2 := hz 2
      have z3 := hz 3
      have z4 := hz 4
      clear hz
      obtain ⟨k3, k4, -, -⟩ := hD3.cells
      obtain ⟨-, -, ⟨v2, k2⟩⟩ := hD3.cell0
      have hfin := ((hD3.noWait).setDown false).setFuse (-1) (by omega) (by omega)
      have hFin := (((hF3.set (p := ⟨b, 2, none⟩) (.inl hbX) (.slice none 0 0)).set (p := ⟨b, 4, none⟩) (.inl hbX) (.bool false)).set (p := ⟨b, 3, none⟩) (.inl hbX) (.int .i64 (-1)))
      have HF := Lib.hid (And.intro hfin hFin)
      clear hfin hFin ho0 ho1 c0 c1 ho3 hg3
      go_wp2
      go_end0
      refine Ret.of rfl ⟨?_, HF.out.2⟩
      have := HF.out.1
      unfold DM.restart
      rw [HL.out]
      exact this
end Go.Proofs.Ytkapmpngglibjaa
