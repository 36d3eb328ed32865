/- Several texts in one: what each begins with says what it shows. Conditions: each law's own premises. -/
import Derived.Test.YtkapmpngglibjaaQ22

/- The store's numbers and heads, as texts. Conditions: each contract's own premises. -/
namespace Go.Proofs.Ytkapmpngglibjaa
open Go Go.RowKit

set_option maxHeartbeats 1000000 in
set_option maxRecDepth 100000 in
theorem sfour_any (n : Nat) (w : World) (hn : n < 2147483648) :
    Calls Try.prog 106 #[.int .i64 (n : Int)] w (Ret (.string (fourB n)) fun w' => Below w.heap.size w w') := by
  have n0 : (0 : Int) ≤ (n : Int) := by omega
  have n1 : (n : Int) < 2147483648 := by omega
  have hc := conv_fourI w ((n : Int) % 256) ((n : Int) / 256 % 256) ((n : Int) / 65536 % 256) ((n : Int) / 16777216) (n % 256) (n / 256 % 256) (n / 65536 % 256) (n / 16777216) (by omega) (by omega) (by omega) (by omega) (by omega) (by omega) (by omega) (by omega)
  go_enter Try.func106, Try.ntmps106
  go_wp2_with fail
  go_ret
  refine Ret.of ?_ ((Below.refl _ _).alloc (Nat.le_refl _) _)
  have e : ∀ m : Nat, UInt8.ofNat (m % 256) = UInt8.ofNat m := fun m => by
    rw [← UInt8.toNat_inj]
    simp
  rw [e, e, e]
  rfl

def unfourN (s : ByteArray) (i : Nat) : Nat := byteAt s i + 256 * byteAt s (i + 1) + 65536 * byteAt s (i + 2) + 16777216 * byteAt s (i + 3)

theorem or_i64 (a b : Nat) (ha : a < 4611686018427387904) (hb : b < 4611686018427387904) : bits .or .i64 (a : Int) (b : Int) = ((a ||| b : Nat) : Int) := by
  have hx : a ||| b < 2 ^ 62 := Nat.or_lt_two_pow (by omega) (by omega)
  have h1 : (BitVec.ofInt 64 (a : Int)).toNat = a := by
    rw [BitVec.ofInt_natCast, BitVec.toNat_ofNat]; exact Nat.mod_eq_of_lt (by omega)
  have h2 : (BitVec.ofInt 64 (b : Int)).toNat = b := by
    rw [BitVec.ofInt_natCast, BitVec.toNat_ofNat]; exact Nat.mod_eq_of_lt (by omega)
  show IntKind.i64.wrap ((BitVec.ofInt 64 (a : Int) ||| BitVec.ofInt 64 (b : Int)).toNat : Int) = _
  rw [BitVec.toNat_or, h1, h2]
  exact IntWalk.i64_in _ (by omega)

theorem or_add (a b k : Nat) (ha : a < 2 ^ k) : a ||| 2 ^ k * b = a + 2 ^ k * b := by
  rw [Nat.or_comm, ← Nat.two_pow_add_eq_or_of_lt ha, Nat.add_comm]

theorem or_bytes (a b : Nat) (X : Int) (k : Nat) (hk : k ≤ 24) (ha : a < 2 ^ k) (hb : b < 256) (hX : X = ((2 ^ k * b : Nat) : Int)) : bits .or .i64 (a : Int) X = ((a + 2 ^ k * b : Nat) : Int) := by
  have h24 : 2 ^ k ≤ 2 ^ 24 := Nat.pow_le_pow_right (by decide) hk
  have hm : 2 ^ k * b ≤ 2 ^ 24 * 256 := Nat.mul_le_mul h24 (by omega)
  rw [hX, or_i64 _ _ (by omega) (by omega), or_add _ _ _ ha]

set_option maxHeartbeats 1000000 in
set_option maxRecDepth 100000 in
theorem unfour_any (s : ByteArray) (w : World) (hs : s.size = 4) : Calls Try.prog 105 #[.string s] w (Ret (.int .i64 (unfourN s 0 : Int)) fun w' => Below w.heap.size w w') := by
  have s0 : (0 : Int) < (s.size : Int) := by omega
  have s1 : (1 : Int) < (s.size : Int) := by omega
  have s2 : (2 : Int) < (s.size : Int) := by omega
  have s3 : (3 : Int) < (s.size : Int) := by omega
  have t0 : 0 < s.size := by omega
  have t1 : 1 < s.size := by omega
  have t2 : 2 < s.size := by omega
  have t3 : 3 < s.size := by omega
  have x0 := byteAt_eq s 0 t0
  have x1 := byteAt_eq s 1 t1
  have x2 := byteAt_eq s 2 t2
  have x3 := byteAt_eq s 3 t3
  have m0 := byteAt_lt s 0
  have m1 := byteAt_lt s 1
  have m2 := byteAt_lt s 2
  have m3 := byteAt_lt s 3
  have hfin : unfourN s 0 = byteAt s 0 + 256 * byteAt s 1 + 65536 * byteAt s 2 + 16777216 * byteAt s 3 := rfl
  have HFIN := Lib.hid (fun (_ : Unit) => hfin)
  clear hfin hs
  generalize byteAt s 0 = b0 at *
  generalize byteAt s 1 = b1 at *
  generalize byteAt s 2 = b2 at *
  generalize byteAt s 3 = b3 at *
  have e0 : IntKind.i64.wrap (b0 : Int) = (b0 : Int) := IntWalk.i64_in _ (by omega)
  have e1 : IntKind.i64.wrap (b1 : Int) = (b1 : Int) := IntWalk.i64_in _ (by omega)
  have e2 : IntKind.i64.wrap (b2 : Int) = (b2 : Int) := IntWalk.i64_in _ (by omega)
  have e3 : IntKind.i64.wrap (b3 : Int) = (b3 : Int) := IntWalk.i64_in _ (by omega)
  have M := Lib.hid (fun (_ : Unit) => And.intro m0 (And.intro m1 (And.intro m2 m3)))
  clear m0 m1 m2 m3
  go_enter Try.func105, Try.ntmps105
  go_wp2_with fail
  refine wp_region_plan (fun w2 => w2 = w.drew) 21 [([0, 3, 8, 13, 1, 4, 9, 14, 2, 5, 10, 15, 6, 11, 16, 7, 12, 17, 18], [], false)] (by kernel_rfl) (by kernel_rfl) ?_
  apply wpStages_last
  case hT => rfl
  case hn => exact Nat.le_refl _
  case hq =>
    rintro w2 rfl
    simp only [picked, List.filterMap_cons, List.filterMap_nil, List.getElem?_cons_zero, List.getElem?_cons_succ]
    repeat still_step
    exact wpStill_nil rfl
  simp only [picked, List.filterMap_nil]
  refine wpList_nil (OnlyNormal.mk ?_)
  go_wp2_with fail
  go_ret
  refine Ret.of ?_ (Below.refl _ _).drew
  obtain ⟨m0, m1, m2, m3⟩ := M.out ()
  have f1 := or_bytes b0 b1 (IntKind.i64.wrap ((b1 : Int) * 256)) 8 (by decide) (by omega) m1 (by rw [IntWalk.i64_in _ (by omega)]; omega)
  have f2 := or_bytes (b0 + 2 ^ 8 * b1) b2 (IntKind.i64.wrap ((b2 : Int) * 65536)) 16 (by decide) (by omega) m2 (by rw [IntWalk.i64_in _ (by omega)]; omega)
  have f3 := or_bytes (b0 + 2 ^ 8 * b1 + 2 ^ 16 * b2) b3 (IntKind.i64.wrap ((b3 : Int) * 16777216)) 24 (by decide) (by omega) m3 (by rw [IntWalk.i64_in _ (by omega)]; omega)
  show Value.int IntKind.i64 (bits BinOp.or IntKind.i64 (bits BinOp.or IntKind.i64 (bits BinOp.or IntKind.i64 (b0 : Int) (IntKind.i64.wrap ((b1 : Int) * 256))) (IntKind.i64.wrap ((b2 : Int) * 65536))) (IntKind.i64.wrap ((b3 : Int) * 16777216))) = _
  rw [f1, f2, f3, HFIN.out ()]

/-- A head: which one it is, where all rows stand, how many bytes, the log's first number. -/
structure HM where
  epoch : Nat
  side : Nat
  size : Nat
  first : Nat
def HM.v (h : HM) : Value := .agg #[.int .i64 (h.epoch : Int), .int .i64 (h.side : Int), .int .i64 (h.size : Int), .int .i64 (h.first : Int)]
def HM.ok (h : HM) : Prop := h.epoch < 1073741824 ∧ h.side < 1073741824 ∧ h.size < 1073741824 ∧ h.first < 1073741824
def headB (h : HM) : ByteArray := ⟨#[72]⟩ ++ fourB h.epoch ++ fourB h.side ++ fourB h.size ++ fourB h.first

set_option maxHeartbeats 2000000 in
set_option maxRecDepth 100000 in
theorem htext_any (h : HM) (w : World) (hok : h.ok) : Calls Try.prog 91 #[h.v] w (Ret (.string (headB h)) fun w' => Below w.heap.size w w') := by
  have HOK := Lib.hid (fun (_ : Unit) => hok)
  have HFIN := Lib.hid (fun (_ : Unit) => show headB h = ⟨#[72]⟩ ++ fourB h.epoch ++ fourB h.side ++ fourB h.size ++ fourB h.first from rfl)
  clear hok
  obtain ⟨e, s, z, f⟩ := h
  have f4e : (fourB e).size = 4 := rfl
  have f4s : (fourB s).size = 4 := rfl
  have f4z : (fourB z).size = 4 := rfl
  have f4f : (fourB f).size = 4 := rfl
  unfold HM.v
  simp only
  have HB0 := Lib.hid ((Below.refl w.heap.size w).alloc (Nat.le_refl _) (.cells #[.int .i64 (e : Int), .int .i64 (s : Int), .int .i64 (z : Int), .int .i64 (f : Int)] 143))
  have HBLK := Lib.hid (heap_alloc_new w (.cells #[.int .i64 (e : Int), .int .i64 (s : Int), .int .i64 (z : Int), .int .i64 (f : Int)] 143))
  go_enter Try.func91, Try.ntmps91
  go_wp2_with fail
  generalize w.alloc (.cells #[.int .i64 (e : Int), .int .i64 (s : Int), .int .i64 (z : Int), .int .i64 (f : Int)] 143) = w1 at *
  have HCELL := Lib.hid (fun (w2 : World) (hT : Below w1.heap.size w1 w2) => show w2.heap[w.heap.size]? = _ from (hT.block _ (lt_of_heap HBLK.out)).trans HBLK.out)
  refine wp_region_plan (fun w2 => Below w1.heap.size w1 w2) 19 [([0, 4, 8, 12, 1, 5, 9, 13], [2], true), ([3], [6], true), ([7], [10], true), ([11], [14], true), ([15, 16], [], false)] (by kernel_rfl) (by kernel_rfl) ?_
  apply wpStages_keep
  case hT => exact (Below.refl _ _).drew
  case hn => exact Nat.le_refl _
  case hq =>
    intro w2 hT
    have l0 := cell_of (HCELL.out w2 hT) 0
    have l1 := cell_of (HCELL.out w2 hT) 1
    have l2 := cell_of (HCELL.out w2 hT) 2
    have l3 := cell_of (HCELL.out w2 hT) 3
    simp only [List.getElem?_toArray, List.getElem?_cons_zero, List.getElem?_cons_succ] at l0 l1 l2 l3
    simp only [picked, List.filterMap_cons, List.filterMap_nil, List.getElem?_cons_zero, List.getElem?_cons_succ]
    repeat still_step
    exact wpStill_nil rfl
  simp only [picked, List.filterMap_cons, List.filterMap_nil, List.getElem?_cons_zero, List.getElem?_cons_succ]
  have hT0 : Below w1.heap.size w1 w1.drew := (Below.refl _ _).drew
  go_wp2_with fail
  refine (sfour_any e _ (by have := (HOK.out ()).1; simp only at this; omega)).mono ?_
  rintro _ wa ⟨rfl, hBa⟩
  have hTa := hT0.trans hBa
  clear hBa hT0
  go_wp2_with fail
  refine OnlyNormal.mk ⟨hTa, ?_⟩
  apply wpStages_keep
  case hT => exact hTa
  case hn => exact Nat.le_refl _
  case hq =>
    intro w2 hT
    simp only [picked, List.filterMap_cons, List.filterMap_nil, List.getElem?_cons_zero, List.getElem?_cons_succ]
    repeat still_step
    exact wpStill_nil rfl
  simp only [picked, List.filterMap_cons, List.filterMap_nil, List.getElem?_cons_zero, List.getElem?_cons_succ]
  go_wp2_with fail
  refine (sfour_any s _ (by have := (HOK.out ()).2.1; simp only at this; omega)).mono ?_
  rintro _ wb ⟨rfl, hBb⟩
  have hTb := hTa.trans (hBb.mono hTa.size)
  clear hBb hTa
  go_wp2_with fail
  refine OnlyNormal.mk ⟨hTb, ?_⟩
  apply wpStages_keep
  case hT => exact hTb
  case hn => exact Nat.le_refl _
  case hq =>
    intro w2 hT
    simp only [picked, List.filterMap_cons, List.filterMap_nil, List.getElem?_cons_zero, List.getElem?_cons_succ]
    repeat still_step
    exact wpStill_nil rfl
  simp only [picked, List.filterMap_cons, List.filterMap_nil, List.getElem?_cons_zero, List.getElem?_cons_succ]
  go_wp2_with fail
  refine (sfour_any z _ (by have := (HOK.out ()).2.2.1; simp only at this; omega)).mono ?_
  rintro _ wc ⟨rfl, hBc⟩
  have hTc := hTb.trans (hBc.mono hTb.size)
  clear hBc hTb
  go_wp2_with fail
  refine OnlyNormal.mk ⟨hTc, ?_⟩
  apply wpStages_keep
  case hT => exact hTc
  case hn => exact Nat.le_refl _
  case hq =>
    intro w2 hT
    simp only [picked, List.filterMap_cons, List.filterMap_nil, List.getElem?_cons_zero, List.getElem?_cons_succ]
    repeat still_step
    exact wpStill_nil rfl
  simp only [picked, List.filterMap_cons, List.filterMap_nil, List.getElem?_cons_zero, List.getElem?_cons_succ]
  go_wp2_with fail
  refine (sfour_any f _ (by have := (HOK.out ()).2.2.2; simp only at this; omega)).mono ?_
  rintro _ wd ⟨rfl, hBd⟩
  have hTd := hTc.trans (hBd.mono hTc.size)
  clear hBd hTc
  go_wp2_with fail
  refine OnlyNormal.mk ⟨hTd, ?_⟩
  apply wpStages_last
  case hT => exact hTd
  case hn => exact Nat.le_refl _
  case hq =>
    intro w2 hT
    simp only [picked, List.filterMap_cons, List.filterMap_nil, List.getElem?_cons_zero, List.getElem?_cons_succ]
    repeat still_step
    exact wpStill_nil rfl
  simp only [picked, List.filterMap_nil]
  refine wpList_nil (OnlyNormal.mk ?_)
  go_wp2_with fail
  go_ret
  exact Ret.of (by rw [HFIN.out ()]; rfl) (HB0.out.trans (hTd.mono (Nat.le_of_lt (lt_of_heap HBLK.out))))

end Go.Proofs.Ytkapmpngglibjaa
