/- Several texts in one: what each begins with says what it shows. Conditions: each law's own premises. -/
import Derived.Test.YtkapmpngglibjaaQ25
import Derived.RangeFuncNested

/- All rows read again from their text. Conditions: the contract's own premises. -/
namespace Go.Proofs.Ytkapmpngglibjaa
open Go Go.RowKit

def ParseRes (rows : List Chg) (w : World) (v : Value) (w' : World) : Prop := ∃ vr, v = .tuple #[vr, .bool true] ∧ OwnC w' vr rows ∧ (∀ k, vr.ownBlock = some k → w.heap.size ≤ k) ∧ Below w.heap.size w w'

set_option maxHeartbeats 4000000 in
set_option maxRecDepth 100000 in
theorem parseAll_good (rows : List Chg) (hg : GoodRows rows) (w : World) : Calls Try.prog 90 #[.string (allB rows)] w (RetV (ParseRes rows w)) := by
  have HG := Lib.hid hg
  obtain ⟨n, hn⟩ : ∃ n, n = rows.length := ⟨_, rfl⟩
  have HN := Lib.hid hn
  clear hn hg
  go_enter Try.func90, Try.ntmps90
  go_wp2_with fail
  go_loopw [0, 4] (fun t l wr => ∃ k : Nat, k ≤ n ∧ t = .string (allB (rows.drop k)) ∧ Hid (OwnC wr l (rows.take k) ∧ (∀ g, l.ownBlock = some g → w.heap.size ≤ g) ∧ Below w.heap.size w wr)) (fun t _ _ => (strOf t).size)
  case atStart => exact ⟨0, Nat.zero_le _, rfl, by rw [List.take_zero]; exact World.ownsRow_nil _ _ _ _, (fun g h => by cases h), Below.refl _ _⟩
  case round =>
    obtain ⟨k, hk, rfl, HR⟩ := hrel
    by_cases hlt : k < n
    · obtain ⟨c, hc⟩ : ∃ c, rows[k]? = some c := ⟨_, List.getElem?_eq_getElem (by rw [← HN.out]; exact hlt)⟩
      have hdrop : rows.drop k = c :: rows.drop (k + 1) := by
        obtain ⟨h1, h2⟩ := List.getElem?_eq_some_iff.1 hc
        rw [List.drop_eq_getElem_cons h1, h2]
      have hmem := List.mem_of_getElem? hc
      have hf := HG.out.ok c hmem
      have hgone := HG.out.there c hmem
      rw [hdrop, allB]
      have HP := Lib.hid (fun (_ : Unit) => rowB_head c (allB (rows.drop (k + 1))) hf)
      have hsz : (rowB c ++ allB (rows.drop (k + 1))).size = 3 + c.key.size + c.val.size + (allB (rows.drop (k + 1))).size := by rw [ByteArray.size_append, rowB_size]
      have hrs : (allB (rows.drop (k + 1))).size ≤ 6080 := by
        have h1 := allB_size (rows.drop (k + 1)) (fun x hx => HG.out.ok x (List.mem_of_mem_drop hx))
        have h2 := HG.out.most
        rw [List.length_drop] at h1
        omega
      have htk : rows.take (k + 1) = rows.take k ++ [c] := by rw [List.take_add_one, hc]; rfl
      have happ : applyL (rows.take k) [c] = rows.take (k + 1) := by
        have hr : Rising (rows.take k ++ [c]) := by rw [← htk]; exact List.Pairwise.sublist (List.take_sublist _ _) HG.out.rise
        show put1 (rows.take k) c = _
        rw [put1_snoc hr hgone, htk]
      obtain ⟨z1, z2, -⟩ := ok_sizes hf
      have HAPP := Lib.hid (fun (_ : Unit) => happ)
      have HF := Lib.hid (fun (_ : Unit) => And.intro hf hgone)
      have hne : ((rowB c ++ allB (rows.drop (k + 1))).toList == []) = false := by
        rw [ByteArray.toList_eq, rowB_list]
        rfl
      clear hdrop hmem hc htk happ hf hgone
      generalize hrr : allB (rows.drop (k + 1)) = r at *
      have HRR := Lib.hid (fun (_ : Unit) => hrr)
      clear hrr
      generalize rowB c ++ r = T at *
      obtain ⟨p0, p1, p2, p3, p4, p5⟩ := HP.out ()
      have P3 := Lib.hid (fun (_ : Unit) => And.intro p3 (And.intro p4 p5))
      have t0 : 0 < T.size := by omega
      have t1 : 1 < T.size := by omega
      have t2 : 2 < T.size := by omega
      have x0 := byteAt_eq T 0 t0
      have x1 := byteAt_eq T 1 t1
      have x2 := byteAt_eq T 2 t2
      rw [p0] at x0
      rw [p1] at x1
      rw [p2] at x2
      obtain ⟨ck, cv, cg⟩ := c
      simp only at *
      obtain rfl : cg = false := (HF.out ()).2
      obtain ⟨ao4, m4, cap4, rfl⟩ : ∃ ao m cap, u4 = .slice ao m cap := by
        obtain ⟨ao, cap, h⟩ := owns_form HR.out.1
        exact ⟨_, _, _, h⟩
      have s0 : (0 : Int) < (T.size : Int) := by omega
      have s1 : (1 : Int) < (T.size : Int) := by omega
      have s2 : (2 : Int) < (T.size : Int) := by omega
      have s3 : (3 : Int) ≤ (T.size : Int) := by omega
      have HSZ := Lib.hid (fun (_ : Unit) => And.intro hsz hrs)
      have hks0 : (0 : Int) ≤ (ck.size : Int) := by omega
      have hks1 : (ck.size : Int) ≤ 48 := by omega
      have hvs0 : (0 : Int) ≤ (cv.size : Int) := by omega
      have hvs1 : (cv.size : Int) ≤ 44 := by omega
      have hle : (3 : Int) + (ck.size : Int) + (cv.size : Int) ≤ (T.size : Int) := by omega
      have hle2 : (3 : Int) + (ck.size : Int) ≤ (T.size : Int) := by omega
      have hle3 : (3 : Int) ≤ 3 + (ck.size : Int) := by omega
      have hle4 : (3 : Int) + (ck.size : Int) ≤ 3 + (ck.size : Int) + (cv.size : Int) := by omega
      have hz0 : (0 : Int) ≤ 3 + (ck.size : Int) := by omega
      have hz1 : (0 : Int) ≤ 3 + (ck.size : Int) + (cv.size : Int) := by omega
      have ht1 : ((3 : Int) + (ck.size : Int)).toNat = 3 + ck.size := by omega
      have ht2 : ((3 : Int) + (ck.size : Int) + (cv.size : Int)).toNat = 3 + ck.size + cv.size := by omega
      have e0 : IntKind.i64.wrap (ck.size : Int) = (ck.size : Int) := IntWalk.i64_in _ (by omega)
      have e1 : IntKind.i64.wrap (cv.size : Int) = (cv.size : Int) := IntWalk.i64_in _ (by omega)
      have e2 : IntKind.i64.wrap (3 + (ck.size : Int)) = 3 + (ck.size : Int) := IntWalk.i64_in _ (by omega)
      have e3 : IntKind.i64.wrap (3 + (ck.size : Int) + (cv.size : Int)) = 3 + (ck.size : Int) + (cv.size : Int) := IntWalk.i64_in _ (by omega)
      have w0 : IntKind.i64.wrap 0 = 0 := by decide
      have m0 : (256 : Int) * 0 = 0 := rfl
      have a0 : (3 : Int) + (ck.size : Int) + (cv.size : Int) + 0 = 3 + (ck.size : Int) + (cv.size : Int) := by omega
      have c1 : ((T.size : Int) < 3) = False := eq_false (by omega)
      have c2 : ((T.size : Int) < 3 + (ck.size : Int) + (cv.size : Int)) = False := eq_false (by omega)
      have p3' := p3
      have p4' := p4
      have p5' : T.extract (3 + ck.size + cv.size) T.size = r := by rw [hsz]; exact p5
      clear HP p0 p1 p2 p3 p4 p5 hsz hrs P3
      go_wp2_with fail
      refine wp_region_plan (fun w2 => w2 = wr.drew) 64 [([0, 1, 2, 3, 4, 8, 12, 17, 5, 9, 13, 18, 6, 10, 14, 7, 15, 11, 16, 19, 20], [], false)] (by kernel_rfl) (by kernel_rfl) ?_
      apply wpStages_last
      case hT => rfl
      case hn => exact Nat.le_refl _
      case hq =>
        rintro w2 rfl
        simp only [picked, List.filterMap_cons, List.filterMap_nil, List.getElem?_cons_zero, List.getElem?_cons_succ]
        with_reducible refine wpStill_want ?hw (fun K hK => ?_)
        case hw => kernel_rfl
        (go_simp; refine hK _ ?_; clear hK K)
        with_reducible refine wpStill_want ?hw (fun K hK => ?_)
        case hw => kernel_rfl
        (go_simp; refine hK _ ?_; clear hK K)
        with_reducible refine wpStill_want ?hw (fun K hK => ?_)
        case hw => kernel_rfl
        (go_simp; refine hK _ ?_; clear hK K)
        with_reducible refine wpStill_want ?hw (fun K hK => ?_)
        case hw => kernel_rfl
        (go_simp; refine hK _ ?_; clear hK K)
        with_reducible refine wpStill_want ?hw (fun K hK => ?_)
        case hw => kernel_rfl
        (go_simp; refine hK _ ?_; clear hK K)
        with_reducible refine wpStill_want ?hw (fun K hK => ?_)
        case hw => kernel_rfl
        (go_simp; refine hK _ ?_; clear hK K)
        with_reducible refine wpStill_want ?hw (fun K hK => ?_)
        case hw => kernel_rfl
        (go_simp; refine hK _ ?_; clear hK K)
        with_reducible refine wpStill_want ?hw (fun K hK => ?_)
        case hw => kernel_rfl
        (go_simp; refine hK _ ?_; clear hK K)
        with_reducible refine wpStill_want ?hw (fun K hK => ?_)
        case hw => kernel_rfl
        (go_simp; refine hK _ ?_; clear hK K)
        with_reducible refine wpStill_want ?hw (fun K hK => ?_)
        case hw => kernel_rfl
        (go_simp; refine hK _ ?_; clear hK K)
        with_reducible refine wpStill_want ?hw (fun K hK => ?_)
        case hw => kernel_rfl
        (go_simp; refine hK _ ?_; clear hK K)
        with_reducible refine wpStill_want ?hw (fun K hK => ?_)
        case hw => kernel_rfl
        (go_simp; refine hK _ ?_; clear hK K)
        with_reducible refine wpStill_want ?hw (fun K hK => ?_)
        case hw => kernel_rfl
        (go_simp; refine hK _ ?_; clear hK K)
        with_reducible refine wpStill_want ?hw (fun K hK => ?_)
        case hw => kernel_rfl
        (go_simp; refine hK _ ?_; clear hK K)
        with_reducible refine wpStill_want ?hw (fun K hK => ?_)
        case hw => kernel_rfl
        (go_simp; refine hK _ ?_; clear hK K)
        with_reducible refine wpStill_want ?hw (fun K hK => ?_)
        case hw => kernel_rfl
        (go_simp; refine hK _ ?_; clear hK K)
        with_reducible refine wpStill_want ?hw (fun K hK => ?_)
        case hw => kernel_rfl
        (go_simp; refine hK _ ?_; clear hK K)
        with_reducible refine wpStill_want ?hw (fun K hK => ?_)
        case hw => kernel_rfl
        (go_simp; refine hK _ ?_; clear hK K)
        with_reducible refine wpStill_want ?hw (fun K hK => ?_)
        case hw => kernel_rfl
        (go_simp; refine hK _ ?_; clear hK K)
        with_reducible refine wpStill_want ?hw (fun K hK => ?_)
        case hw => kernel_rfl
        (go_simp; refine hK _ ?_; clear hK K)
        with_reducible refine wpStill_want ?hw (fun K hK => ?_)
        case hw => kernel_rfl
        (go_simp; refine hK _ ?_; clear hK K)
        exact wpStill_nil rfl
      simp only [picked, List.filterMap_nil]
      refine wpList_nil (OnlyNormal.mk ?_)
      go_wp2_with fail
      refine wp_region_plan (fun w2 => w2 = wr.drew.drew) 64 [([0, 1, 5, 2, 6, 3, 7, 4, 8, 9, 10], [], false)] (by kernel_rfl) (by kernel_rfl) ?_
      apply wpStages_last
      case hT => rfl
      case hn => exact Nat.le_refl _
      case hq =>
        rintro w2 rfl
        simp only [picked, List.filterMap_cons, List.filterMap_nil, List.getElem?_cons_zero, List.getElem?_cons_succ]
        repeat still_step
        exact wpStill_nil rfl
      simp only [picked, List.filterMap_nil]
      refine wpList_nil (OnlyNormal.mk ?_)
      go_wp2_with fail
      refine wp_region_plan (fun w2 => True) 64 [([0, 1, 3, 4, 5, 2, 6, 7], [8], true), ([], [9], false)] (by kernel_rfl) (by kernel_rfl) ?_
      apply wpStages_keep
      case hT => trivial
      case hn => exact Nat.le_refl _
      case hq =>
        intro w2 _
        simp only [picked, List.filterMap_cons, List.filterMap_nil, List.getElem?_cons_zero, List.getElem?_cons_succ]
        repeat still_step
        exact wpStill_nil rfl
      simp only [picked, List.filterMap_cons, List.filterMap_nil, List.getElem?_cons_zero, List.getElem?_cons_succ]
      have HB0 := Lib.hid (show Below w.heap.size w wr.drew.drew.drew ∧ OwnC wr.drew.drew.drew (.slice ao4 m4 cap4) (rows.take k) from ⟨(HR.out.2.2).drew.drew.drew, HR.out.1⟩)
      generalize wr.drew.drew.drew = w0' at *
      go_wp2_with fail
      refine OnlyNormal.mk ⟨trivial, ?_⟩
      apply wpStages_seq
      simp only [picked, List.filterMap_cons, List.filterMap_nil, List.getElem?_cons_zero, List.getElem?_cons_succ]
      have hblk := heap_alloc_new w0' (.cells #[.string ⟨#[]⟩, .string ⟨#[]⟩, .bool false] 64)
      have k0 := cell_of hblk 0
      have k1 := cell_of hblk 1
      have k2 := cell_of hblk 2
      have z0 := frozen_of hblk
      simp only [List.getElem?_toArray, List.getElem?_cons_zero, List.getElem?_cons_succ] at k0 k1 k2
      go_wp2_with fail
      refine OnlyNormal.mk (wpStages_nil ?_)
      clear k0 k1 k2 z0 hblk
      have HA := Lib.hid (heap_alloc_new w0' (.cells #[.string ck, .string cv, .bool false] 64))
      have HB1 := Lib.hid (HB0.out.1.alloc HB0.out.1.size (.cells #[.string ck, .string cv, .bool false] 64))
      have HO1 := Lib.hid (HB0.out.2.frame ((Frame.refl [] w0').alloc (.cells #[.string ck, .string cv, .bool false] 64)) (by simp))
      generalize w0'.alloc (.cells #[.string ck, .string cv, .bool false] 64) = w1 at *
      generalize w0'.heap.size = bc at *
      have d0 := cell_of HA.out 0
      have d1 := cell_of HA.out 1
      have d2 := cell_of HA.out 2
      simp only [List.getElem?_toArray, List.getElem?_cons_zero, List.getElem?_cons_succ] at d0 d1 d2
      have hck := check_any ck cv false w1
      rw [(HF.out ()).1, show errV 0 = .nilIface from rfl] at hck
      go_wp2_with fail
      refine hck.mono ?_
      rintro e w2 ⟨rfl, hB2⟩
      have HA2 := Lib.hid ((hB2.block _ (lt_of_heap HA.out)).trans HA.out)
      have HB2 := Lib.hid (HB1.out.trans (hB2.mono HB1.out.size))
      have HO2 := Lib.hid (HO1.out.frame (Frame.of_below [] hB2) (by simp))
      clear d0 d1 d2 hck hB2
      have d0 := cell_of HA2.out 0
      have d1 := cell_of HA2.out 1
      have d2 := cell_of HA2.out 2
      simp only [List.getElem?_toArray, List.getElem?_cons_zero, List.getElem?_cons_succ] at d0 d1 d2
      have HC := Lib.hid (heap_alloc_new w2 (.cells #[.string ck, .string cv, .bool false] 64))
      have HB3 := Lib.hid (HB2.out.alloc HB2.out.size (.cells #[.string ck, .string cv, .bool false] 64))
      have HO3 := Lib.hid (HO2.out.frame ((Frame.refl [] w2).alloc (.cells #[.string ck, .string cv, .bool false] 64)) (by simp))
      have hch : ChangesAt (w2.alloc (.cells #[.string ck, .string cv, .bool false] 64)) (.slice (some ⟨w2.heap.size, 0, none⟩) 1 1) [⟨ck, cv, false⟩] := by
        refine ⟨_, _, rfl, by simp [maxLen], fun i r hi => ?_⟩
        match i, hi with
        | 0, hi =>
          cases hi
          refine ⟨_, _, rfl, fun j u hu => ?_⟩
          rw [cell_of HC.out]
          match j, hu with
          | 0, hu => cases hu; rfl
          | 1, hu => cases hu; rfl
          | 2, hu => cases hu; rfl
      have hap := apply_any _ _ (rows.take k) [⟨ck, cv, false⟩] _ HO3.out.at hch (List.Pairwise.sublist (List.take_sublist _ _) HG.out.rise) (by have := HG.out.most; rw [List.length_take]; simp only [List.length_cons, List.length_nil]; omega)
      rw [HAPP.out ()] at hap
      go_wp2_with fail
      refine hap.mono ?_
      clear hap hch d0 d1 d2
      rintro e w4 ⟨v4, rfl, ho4, hb4, hB4⟩
      have HR4 := Lib.hid (show OwnC w4 v4 (rows.take (k + 1)) ∧ (∀ g, v4.ownBlock = some g → w.heap.size ≤ g) ∧ Below w.heap.size w w4 from ⟨ho4, fun g hg => Nat.le_trans HB3.out.size (hb4 g hg), HB3.out.trans (hB4.mono HB3.out.size)⟩)
      clear ho4 hb4 hB4
      go_wp2_with fail
      refine ⟨⟨k + 1, by omega, by rw [HRR.out ()], HR4⟩, ?_⟩
      have := (HSZ.out ()).1
      show r.size < T.size
      omega
    · obtain rfl : k = n := by omega
      rw [List.drop_of_length_le (by rw [HN.out]; exact Nat.le_refl _), allB]
      have HE := Lib.hid (show rows.take k = rows from List.take_of_length_le (by rw [HN.out]; exact Nat.le_refl _))
      go_wp2_with fail
      go_ret2
      exact RetV.of ⟨_, rfl, by rw [← HE.out]; exact HR.out.1, HR.out.2.1, HR.out.2.2⟩

end Go.Proofs.Ytkapmpngglibjaa

/- A checkpoint, plain: what is written, step by step. Conditions: each law's own premises. -/
namespace Go.Proofs.Ytkapmpngglibjaa
open Go Go.RowKit

/-- The k-th 140 bytes of a text. -/
def chunkB (t : ByteArray) (k : Nat) : ByteArray := t.extract (140 * k) (140 * k + min 140 (t.size - 140 * k))
theorem chunkB_size (t : ByteArray) (k : Nat) : (chunkB t k).size ≤ 140 := by
  unfold chunkB
  rw [ByteArray.size_extract]
  omega

/-- Chunks written from the i-th sector behind a place on, till one fails. -/
def ckWrites (at_ : Nat) (t : ByteArray) : DM → Nat → List Nat → Nat × DM
  | D, _, [] => (0, D)
  | D, i, k :: ks => if (D.write ((at_ + i : Nat) : Int) (chunkB t k)).1 = 0 then ckWrites at_ t (D.write ((at_ + i : Nat) : Int) (chunkB t k)).2 (i + 1) ks else D.write ((at_ + i : Nat) : Int) (chunkB t k)

theorem ckWrites_append (at_ : Nat) (t : ByteArray) : ∀ (pre rest : List Nat) (i : Nat) (D : DM), ckWrites at_ t D i (pre ++ rest) = if (ckWrites at_ t D i pre).1 = 0 then ckWrites at_ t (ckWrites at_ t D i pre).2 (i + pre.length) rest else ckWrites at_ t D i pre
  | [], rest, i, D => rfl
  | k :: pre, rest, i, D => by
    rw [List.cons_append, ckWrites, ckWrites]
    split
    · rw [ckWrites_append at_ t pre rest, List.length_cons, show i + 1 + pre.length = i + (pre.length + 1) by omega]
    · rfl

theorem ckWrites_snoc (at_ : Nat) (t : ByteArray) (pre : List Nat) (k : Nat) (D : DM) (h : (ckWrites at_ t D 0 pre).1 = 0) :
    ckWrites at_ t D 0 (pre ++ [k]) = (ckWrites at_ t D 0 pre).2.write ((at_ + pre.length : Nat) : Int) (chunkB t k) := by
  rw [ckWrites_append, if_pos h, ckWrites, Nat.zero_add]
  split
  · rename_i h1
    exact Prod.ext h1.symm rfl
  · rfl

theorem ckWrites_stop (at_ : Nat) (t : ByteArray) (pre rest : List Nat) (D : DM) (h : (ckWrites at_ t D 0 pre).1 ≠ 0) : ckWrites at_ t D 0 (pre ++ rest) = ckWrites at_ t D 0 pre := by
  rw [ckWrites_append, if_neg h]

theorem ckWrites_len (at_ : Nat) (t : ByteArray) : ∀ (ks : List Nat) (i : Nat) (D : DM), (ckWrites at_ t D i ks).2.now.length = D.now.length ∧ (ckWrites at_ t D i ks).2.wait.length ≤ D.wait.length + ks.length
  | [], i, D => ⟨rfl, Nat.le_refl _⟩
  | k :: ks, i, D => by
    have h1 := DM.wr_len D ((at_ + i : Nat) : Int) (chunkB t k)
    have h2 := DM.wr_wait D ((at_ + i : Nat) : Int) (chunkB t k)
    have h3 := ckWrites_len at_ t ks (i + 1) (D.write ((at_ + i : Nat) : Int) (chunkB t k)).2
    rw [ckWrites]
    simp only [List.length_cons]
    split
    · exact ⟨h3.1.trans h1, by omega⟩
    · exact ⟨h1, by omega⟩

/-- All the checkpoint does to the disk. -/
def ckD (D : DM) (h : HM) (t : ByteArray) : Nat × DM :=
  if (ckWrites (2 + h.side * 44) t D 0 (List.range (chunks t.size))).1 = 0 then
    if (ckWrites (2 + h.side * 44) t D 0 (List.range (chunks t.size))).2.flush.1 = 0 then
      if ((ckWrites (2 + h.side * 44) t D 0 (List.range (chunks t.size))).2.flush.2.write ((h.epoch % 2 : Nat) : Int) (headB h)).1 = 0 then
        ((ckWrites (2 + h.side * 44) t D 0 (List.range (chunks t.size))).2.flush.2.write ((h.epoch % 2 : Nat) : Int) (headB h)).2.flush
      else (ckWrites (2 + h.side * 44) t D 0 (List.range (chunks t.size))).2.flush.2.write ((h.epoch % 2 : Nat) : Int) (headB h)
    else (ckWrites (2 + h.side * 44) t D 0 (List.range (chunks t.size))).2.flush
  else ckWrites (2 + h.side * 44) t D 0 (List.range (chunks t.size))

/-! ### the disk's blocks are cells -/

def CellsAt (w : World) (X : List Nat) : Prop := ∀ k ∈ X, ∃ c e f, w.heap[k]? = some (.cells c e f)

theorem owns_cells {w : World} {base : Nat} {e : TypeId} {size : Nat} {v : Value} {n : Nat} {xs : List Value} (h : w.ownsRow base e size v n xs) {k : Nat} (hk : v.ownBlock = some k) : ∃ c e f, w.heap[k]? = some (.cells c e f) := by
  obtain ⟨cur, hc⟩ := owns_lt h hk
  exact ⟨_, _, _, hc⟩

/-- A disk, with its own blocks alone. -/
theorem DiskAt.tight {w : World} {T tw b : Nat} {X : List Nat} {D : DM} (h : DiskAt w T tw b X D) : ∃ Y, DiskAt w T tw b Y D ∧ CellsAt w Y ∧ ∀ k ∈ Y, k ∈ X := by
  obtain ⟨⟨vk, vn, vw, h1, h2, h3, h4, h5, h6, h7, h8, h9⟩, hlt, hty, hok⟩ := h
  refine ⟨b :: (vk.ownBlock.toList ++ vn.ownBlock.toList ++ vw.ownBlock.toList), ⟨⟨vk, vn, vw, h1, h2, h3, h4, h5, by simp, fun k hk => by simp [hk], fun k hk => by simp [hk], fun k hk => by simp [hk]⟩, ?_, hty, hok⟩, ?_, ?_⟩
  all_goals
    intro k hk
    simp only [List.mem_cons, List.mem_append, Option.mem_toList] at hk
  · rcases hk with rfl | (hk | hk) | hk
    · exact hlt _ h6
    · exact hlt _ (h7 k hk)
    · exact hlt _ (h8 k hk)
    · exact hlt _ (h9 k hk)
  · rcases hk with rfl | (hk | hk) | hk
    · exact ⟨_, _, _, h1⟩
    · exact owns_cells h2 hk
    · exact owns_cells h3 hk
    · exact owns_cells h4 hk
  · rcases hk with rfl | (hk | hk) | hk
    · exact h6
    · exact h7 k hk
    · exact h8 k hk
    · exact h9 k hk

/-! ### what holds between two chunks -/

/-- The disk, as it is when the chunks pre are written; the counter. -/
def CkI (w0 : World) (X : List Nat) (at_ : Nat) (t : ByteArray) (D : DM) (db a3 : Nat) (pre : List Nat) (W : World) : Prop :=
  (ckWrites at_ t D 0 pre).1 = 0 ∧ (∃ Y, DiskAt W 107 111 db Y (ckWrites at_ t D 0 pre).2 ∧ CellsAt W Y ∧ Fresh w0 X Y) ∧ Frame (a3 :: X) w0 W ∧ W.heap[a3]? = some (.cells #[.int .i64 (pre.length : Int)] 3 (0, 0))

/-- .. where one has failed. -/
def CkX (w0 : World) (X : List Nat) (at_ : Nat) (t : ByteArray) (D : DM) (db a1 a3 : Nat) (c : Code) (pre : List Nat) (W : World) : Prop :=
  c = .ret ∧ (ckWrites at_ t D 0 pre).1 ≠ 0 ∧ (∃ Y, DiskAt W 107 111 db Y (ckWrites at_ t D 0 pre).2 ∧ CellsAt W Y ∧ Fresh w0 X Y) ∧ Frame (a1 :: a3 :: X) w0 W ∧ W.heap[a1]? = some (.cells #[errV (ckWrites at_ t D 0 pre).1] 27 (0, 0))

theorem cells_ne {W : World} {k r : Nat} (hk : ∃ c e f, W.heap[k]? = some (.cells c e f)) (hr : ∃ o : Obj, W.heap[r]? = some o ∧ o.isCells = false) : k ≠ r := by
  rintro rfl
  obtain ⟨c, e, f, h1⟩ := hk
  obtain ⟨o, h2, h3⟩ := hr
  rw [h1] at h2
  cases h2
  cases h3

theorem grown_frame {W W' : World} {row : Option Nat} (hg : W.grownBy W' row) : Frame row.toList W W' := (Frame.refl _ W).grown hg (fun k hk => .inl (by rw [hk]; simp))

theorem CkI.own (w0 : World) (X : List Nat) (at_ : Nat) (t : ByteArray) (D : DM) (db a3 : Nat) : OwnFrom w0.heap.size (CkI w0 X at_ t D db a3) := by
  rintro s W W' row ⟨h1, ⟨Y, h2, h3, h4⟩, h5, h6⟩ hg hr
  have hf := grown_frame hg
  have hn : ∀ k, (∃ c e f, W.heap[k]? = some (.cells c e f)) → k ∉ row.toList := fun k hk hm => cells_ne hk (hr k (by simpa using hm)).2 rfl
  refine ⟨h1, ⟨Y, h2.frame hf (fun k hk => hn k (h3 k hk)), fun k hk => ?_, h4⟩, h5.then' hf (fun k hk => .inr (hr k (by simpa using hk)).1), hf.heap h6 (hn a3 ⟨_, _, _, h6⟩)⟩
  obtain ⟨c, e, f, h⟩ := h3 k hk
  exact ⟨c, e, f, hf.heap h (hn k (h3 k hk))⟩

theorem CkX.own (w0 : World) (X : List Nat) (at_ : Nat) (t : ByteArray) (D : DM) (db a1 a3 : Nat) (c : Code) : OwnFrom w0.heap.size (CkX w0 X at_ t D db a1 a3 c) := by
  rintro s W W' row ⟨h0, h1, ⟨Y, h2, h3, h4⟩, h5, h6⟩ hg hr
  have hf := grown_frame hg
  have hn : ∀ k, (∃ c e f, W.heap[k]? = some (.cells c e f)) → k ∉ row.toList := fun k hk hm => cells_ne hk (hr k (by simpa using hm)).2 rfl
  refine ⟨h0, h1, ⟨Y, h2.frame hf (fun k hk => hn k (h3 k hk)), fun k hk => ?_, h4⟩, h5.then' hf (fun k hk => .inr (hr k (by simpa using hk)).1), hf.heap h6 (hn a1 ⟨_, _, _, h6⟩)⟩
  obtain ⟨c, e, f, h⟩ := h3 k hk
  exact ⟨c, e, f, hf.heap h (hn k (h3 k hk))⟩

/-- A chunk of bytes, as a string. -/
theorem chunk_conv (W : World) (bb : Nat) (t : ByteArray) (k : Nat) (hb : ∀ j, j < t.size → W.cell? ⟨bb, j, none⟩ = some (.int .u8 ((t.data.toList.getD j 0).toNat : Int))) :
    (convert 129 9 (chunkV bb t.size k)).run Try.prog W = .ok (.string (chunkB t k)) W := by
  have hl : (chunkB t k).data.toList.length = min 140 (t.size - 140 * k) := by
    unfold chunkB
    rw [extract_list, List.length_take, List.length_drop, ← size_list]
    omega
  have h := run_convert_bytes_back (P := Try.prog) W 129 9 5 ⟨bb, 140 * k, none⟩ (min 140 (t.size - 140 * k)) (chunkB t k).data.toList Try.underlying129 Try.underlying5 Try.underlying9
    (by
      intro j hj
      rw [add_off, hb (140 * k + j) (by omega)]
      congr 3
      unfold chunkB
      simp only [extract_list, List.getElem_take, List.getElem_drop]
      rw [List.getD_eq_getElem?_getD, List.getElem?_eq_getElem (by rw [← size_list]; omega)]
      rfl)
  rw [hl] at h
  exact h

/-- What lies outside the disk's blocks lies as it lay. -/
theorem KeepsFrom.of_frame {B : Nat} {X : List Nat} {W W' : World} (h : Frame X W W') (hX : CellsAt W X) : KeepsFrom B W W' :=
  ⟨h.size, fun i o _ hi ho => by
    have hn : i ∉ X := fun hm => by
      obtain ⟨c, e, f, hc⟩ := hX i hm
      rw [hc] at hi
      cases hi
      cases ho
    exact (h.block i (lt_of_heap hi) hn).trans hi⟩

end Go.Proofs.Ytkapmpngglibjaa

/- The loop over the chunks of bytes, in a caller that says what lies behind. Conditions: the law's own. -/
namespace Go.Proofs.Ytkapmpngglibjaa
open Go Go.RowKit Go.Shelf

theorem chunkLoop {g : Operand} {assign body : Code} {Q : Exit → Act → World → Prop} {a : Act} {w : World} (p s : Nat) (bs bn bb len cap : Nat) (hg : a.eval g = .func (.func 109) #[] #[.pointer (some ⟨bs, 0, none⟩), .pointer (some ⟨bn, 0, none⟩)])
    (hlc : len ≤ cap) (hlen : len ≤ 6160) (hbs : w.heap[bs]? = some (.cells #[.slice (some ⟨bb, 0, none⟩) len cap] 129 (0, 0))) (hbn : w.heap[bn]? = some (.cells #[.int .i64 140] 3 (0, 0)))
    (I : List Nat → World → Prop) (Ix : Code → List Nat → World → Prop) (hI : OwnFrom w.heap.size I) (hIx : ∀ c, OwnFrom w.heap.size (Ix c)) (h0 : I [] w)
    (hassign : ∀ (l x : Nat) (W : World) (K : Act → World → Prop), K { tmps := (a.tmps.setIfInBounds p (chunkV bb len x)).setIfInBounds s (chunkV bb len x), defers := [] } W →
      assign.wpIn (Fence.wide.inRound l) 1 Try.prog (Exit.then K (fun _ _ _ => False)) { tmps := a.tmps.setIfInBounds p (chunkV bb len x), defers := [] } W)
    (hbody : ∀ (l : Nat) (pre : List Nat) (x : Nat) (W : World), I pre W → pre.length < chunks len →
      body.wpIn (Fence.wide.inRound l) 1 Try.prog (ownPostG w.heap.size (BoxKp bs bn) I Ix (pre ++ [x]) W) { tmps := (a.tmps.setIfInBounds p (chunkV bb len x)).setIfInBounds s (chunkV bb len x), defers := [] } W)
    (hdone : ∀ (D : Nat) (W : World), w.heap.size ≤ D → I (List.range (chunks len)) W → W.heap[D]? = some (.deferred (some [])) → Q .normal { a with defers := { target := .collected D, args := #[] } :: a.defers } W)
    (hstop : ∀ (D : Nat) (c : Code) (k : Nat) (W : World), w.heap.size ≤ D → k ≤ chunks len → Ix c (List.range k) W → W.heap[D]? = some (.deferred (some [])) →
      c.wpIn Fence.wide 3 Try.prog Q { a with defers := { target := .collected D, args := #[] } :: a.defers } W) :
    (Code.rangeFunc g #[p] assign body).wpIn Fence.wide 3 Try.prog Q a w := by
  refine wpIn_rangeFunc_ownG rfl (by decide) (gf := 109) (lb := #[.pointer (some ⟨bs, 0, none⟩), .pointer (some ⟨bn, 0, none⟩)]) hg trivial (enters_of Try.func109 (by kernel_rfl) rfl)
    (chunk_stops 2 (by decide) bs bn bb len cap hlc hlen w hbs hbn) (fun {A B C} h k => ⟨k.1.trans h.1, k.2.trans h.2⟩) (fun W l o o' hl h _ _ => ?_) (Below.refl _ _) (fun _ => rfl) I Ix hI hIx h0
    (fun x => { tmps := (a.tmps.setIfInBounds p (chunkV bb len x)).setIfInBounds s (chunkV bb len x), defers := [] }) ?_ hbody ?_ ?_
  · have n1 : bs < w.heap.size := lt_of_heap hbs
    have n2 : bn < w.heap.size := lt_of_heap hbn
    exact ⟨World.putObj_heap_other (by omega), World.putObj_heap_other (by omega)⟩
  · intro l x W K hK
    have e : (#[p].zip #[chunkV bb len x]).foldl (fun t (p, v) => t.setIfInBounds p v) a.tmps = a.tmps.setIfInBounds p (chunkV bb len x) := by simp
    rw [e]
    exact hassign l x W K hK
  · rintro D ys W hD rfl hi hk
    exact hdone D W hD hi hk
  · rintro D c pre W hD ⟨k, hk, rfl⟩ hi hK
    exact hstop D c k W hD hk hi hK

end Go.Proofs.Ytkapmpngglibjaa
