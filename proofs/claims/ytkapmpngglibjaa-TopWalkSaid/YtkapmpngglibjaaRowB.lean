/- What bytes say of a change. Conditions: each contract's own premises. -/
import Derived.Test.YtkapmpngglibjaaRowA
namespace Go.Proofs.Ytkapmpngglibjaa
open Go Go.RowKit

def byteAt (s : ByteArray) (i : Nat) : Nat := (s.data[i]?.getD 0).toNat
theorem byteAt_eq (s : ByteArray) (i : Nat) (h : i < s.size) : (s[i]'h).toNat = byteAt s i := by
  have h' : i < s.data.size := h
  unfold byteAt
  rw [Array.getElem?_eq_getElem h']
  rfl
theorem byteAt_lt (s : ByteArray) (i : Nat) : byteAt s i < 256 := UInt8.toNat_lt _

def noChg : Chg := ⟨⟨#[]⟩, ⟨#[]⟩, false⟩
def rawParse (s : ByteArray) : Chg := ⟨s.extract 2 (2 + byteAt s 1), s.extract (2 + byteAt s 1) s.size, byteAt s 0 == 1⟩
/-- What bytes say. -/
def parseOf (s : ByteArray) : Chg × Nat :=
  if 2 ≤ s.size ∧ byteAt s 0 ≤ 1 ∧ 2 + byteAt s 1 ≤ s.size ∧ faultOf (rawParse s) = 0 then (rawParse s, 0) else (noChg, 4)
def Chg.v (c : Chg) : Value := .agg #[.string c.key, .string c.val, .bool c.gone]

set_option maxHeartbeats 2000000 in
set_option maxRecDepth 100000 in
theorem parse_any (s : ByteArray) (w : World) (hs : s.size ≤ 200) :
    Calls Try.prog 36 #[.string s] w (Ret (.tuple #[(parseOf s).1.v, errV (parseOf s).2]) fun w' => Below w.heap.size w w') := by
  have h3 : (s.size : Int) ≤ 200 := by omega
  have hB0 : ∀ o, Below w.heap.size w (w.alloc o) := fun o => (Below.refl _ _).alloc (Nat.le_refl _) o
  have HB0 := Lib.hid hB0
  clear hB0
  by_cases h : 2 ≤ s.size
  case neg =>
    have hp : parseOf s = (noChg, 4) := by rw [parseOf, if_neg (by omega)]
    have HP := Lib.hid hp
    clear hp
    have h2 : (s.size : Int) < 2 := by omega
    go_enter Try.func36, Try.ntmps36
    go_wp2_with fail
    refine bodyPost_ret (by simp [results, Try.results36, go_sem]; try rfl) rfl ?_
    exact Ret.of (by rw [HP.out]; rfl) (HB0.out _)
  have h2 : (2 : Int) ≤ (s.size : Int) := by omega
  have x0 := byteAt_eq s 0 (by omega)
  have x1 := byteAt_eq s 1 (by omega)
  have l0 := byteAt_lt s 0
  have l1 := byteAt_lt s 1
  generalize ha : byteAt s 0 = a at *
  generalize hb : byteAt s 1 = b at *
  have HA := Lib.hid ha
  have HB := Lib.hid hb
  clear ha hb
  have a0 : (0 : Int) ≤ (a : Int) := by omega
  have a1 : (a : Int) ≤ 255 := by omega
  have b0 : (0 : Int) ≤ (b : Int) := by omega
  have b1 : (b : Int) ≤ 255 := by omega
  by_cases ha : a ≤ 1
  case neg =>
    have hp : parseOf s = (noChg, 4) := by rw [parseOf, if_neg (by rw [HA.out]; omega)]
    have HP := Lib.hid hp
    clear hp
    have ha' : (1 : Int) < (a : Int) := by omega
    go_enter Try.func36, Try.ntmps36
    go_wp2_with fail
    refine bodyPost_ret (by simp [results, Try.results36, go_sem]; try rfl) rfl ?_
    exact Ret.of (by rw [HP.out]; rfl) (HB0.out _)
  have ha' : (a : Int) ≤ 1 := by omega
  by_cases hb : 2 + b ≤ s.size
  case neg =>
    have hp : parseOf s = (noChg, 4) := by rw [parseOf, if_neg (by rw [HB.out]; omega)]
    have HP := Lib.hid hp
    clear hp
    have hb' : (s.size : Int) < 2 + (b : Int) := by omega
    go_enter Try.func36, Try.ntmps36
    go_wp2_with fail
    refine bodyPost_ret (by simp [results, Try.results36, go_sem]; try rfl) rfl ?_
    exact Ret.of (by rw [HP.out]; rfl) (HB0.out _)
  have hb' : 2 + (b : Int) ≤ (s.size : Int) := by omega
  have p0 : (0 : Int) ≤ 2 + (b : Int) := by omega
  have p1 : (2 : Int) ≤ 2 + (b : Int) := by omega
  have p2 : (2 + (b : Int)).toNat = 2 + b := by omega
  go_enter Try.func36, Try.ntmps36
  go_wp2_with fail
  refine wp_region_plan (fun _ => True) 45 [([0, 1, 3, 4, 6, 2, 5, 7, 8, 9], [10], true), ([], [11], false)] (by kernel_rfl) (by kernel_rfl) ?_
  apply wpStages_keep
  case hT => trivial
  case hn => exact Nat.le_refl _
  case hq =>
    intro w2 _
    simp only [picked, List.filterMap_cons, List.filterMap_nil, List.getElem?_cons_zero, List.getElem?_cons_succ]
    repeat still_step
    exact wpStill_nil rfl
  simp only [picked, List.filterMap_cons, List.filterMap_nil, List.getElem?_cons_zero, List.getElem?_cons_succ]
  go_wp2_with fail
  refine OnlyNormal.mk ⟨trivial, ?_⟩
  apply wpStages_seq
  simp only [picked, List.filterMap_cons, List.filterMap_nil, List.getElem?_cons_zero, List.getElem?_cons_succ]
  go_wp2_with fail
  refine OnlyNormal.mk (wpStages_nil ?_)
  go_wp2_with fail
  have hg : ((a : Int) == 1) = (a == 1) := by
    by_cases h : a = 1
    · subst h; rfl
    · have h' : ¬ (a : Int) = 1 := by omega
      have e1 : ((a : Int) == 1) = false := by simpa using h'
      have e2 : (a == 1) = false := by simpa using h
      rw [e1, e2]
  rw [hg]
  have hraw : rawParse s = ⟨s.extract 2 (2 + b), s.extract (2 + b) s.size, a == 1⟩ := by rw [rawParse, HB.out, HA.out]
  generalize s.extract 2 (2 + b) = kk at *
  generalize s.extract (2 + b) s.size = vv at *
  generalize (a == 1) = g at *
  clear hg
  refine (check_any kk vv g _).mono ?_
  rintro e w1 ⟨rfl, hB1⟩
  have HR := Lib.hid hraw
  clear hraw
  have s1 := size_alloc w (.cells #[.string ⟨#[]⟩, .string ⟨#[]⟩, .bool false] 64)
  have s2 := size_alloc (w.alloc (.cells #[.string ⟨#[]⟩, .string ⟨#[]⟩, .bool false] 64)) (.cells #[.string kk, .string vv, .bool g] 64)
  have f1 : w1.heap[w.heap.size]? = some (.cells #[.string ⟨#[]⟩, .string ⟨#[]⟩, .bool false] 64) := by
    rw [hB1.block _ (by rw [heap_drew]; omega), heap_drew, heap_alloc_old _ _ (by omega), heap_alloc_new]
  have f2 : w1.heap[w.heap.size + 1]? = some (.cells #[.string kk, .string vv, .bool g] 64) := by
    rw [hB1.block _ (by rw [heap_drew]; omega), heap_drew, ← s1, heap_alloc_new]
  have hB2 : Below w.heap.size w w1 := (((Below.refl _ w).alloc (Nat.le_refl _) _).alloc (by omega) _).drew.trans (hB1.mono (by rw [heap_drew]; omega))
  have z1 := frozen_of f1
  have z10 := z1 0
  have z11 := z1 1
  have z12 := z1 2
  have c10 := cell_of f1 0
  have c11 := cell_of f1 1
  have c12 := cell_of f1 2
  have c20 := cell_of f2 0
  have c21 := cell_of f2 1
  have c22 := cell_of f2 2
  simp only [List.getElem?_toArray, List.getElem?_cons_zero, List.getElem?_cons_succ] at c10 c11 c12 c20 c21 c22
  clear hB1 s1 s2 f1 f2 z1
  generalize hm : faultOf ⟨kk, vv, g⟩ = m
  have HM := Lib.hid hm
  clear hm
  by_cases h0 : m = 0
  · subst h0
    have e0 : errV 0 = .nilIface := rfl
    rw [e0]
    clear e0
    go_wp2_with fail
    refine bodyPost_ret (by simp [results, Try.results36, go_sem, c10, c11, c12]; try rfl) rfl ?_
    have hp : parseOf s = (⟨kk, vv, g⟩, 0) := by rw [parseOf, if_pos ⟨h, by rw [HA.out]; exact ha, by rw [HB.out]; exact hb, by rw [HR.out]; exact HM.out⟩, HR.out]
    refine Ret.of (by rw [hp]; rfl) (((hB2.setCell (p := ⟨w.heap.size, 0, none⟩) (Nat.le_refl _) _).setCell (p := ⟨w.heap.size, 1, none⟩) (Nat.le_refl _) _).setCell (p := ⟨w.heap.size, 2, none⟩) (Nat.le_refl _) _)
  · have e0 : errV m = .iface 101 (.int .i64 (m : Int)) := by simp [errV, h0]
    rw [e0]
    clear e0
    have H0 := Lib.hid h0
    clear h0
    go_wp2_with fail
    refine bodyPost_ret (by simp [results, Try.results36, go_sem, c10, c11, c12]; try rfl) rfl ?_
    have hp : parseOf s = (noChg, 4) := by rw [parseOf, if_neg (fun hh => H0.out (by rw [← HM.out, ← HR.out]; exact hh.2.2.2))]
    refine Ret.of (by rw [hp]; rfl) (((hB2.setCell (p := ⟨w.heap.size, 0, none⟩) (Nat.le_refl _) _).setCell (p := ⟨w.heap.size, 1, none⟩) (Nat.le_refl _) _).setCell (p := ⟨w.heap.size, 2, none⟩) (Nat.le_refl _) _)

set_option maxHeartbeats 2000000 in
set_option maxRecDepth 100000 in
theorem changeOf_any (s : ByteArray) (w : World) (hs : s.size ≤ 200) :
    Calls Try.prog 37 #[.string s] w (Ret (.tuple #[(parseOf s).1.v, errN (parseOf s).2]) fun w' => Below w.heap.size w w') := by
  have h3 : (s.size : Int) ≤ 200 := by omega
  have hB0 : ∀ o, Below w.heap.size w (w.alloc o) := fun o => (Below.refl _ _).alloc (Nat.le_refl _) o
  have HB0 := Lib.hid hB0
  clear hB0
  by_cases h : 2 ≤ s.size
  case neg =>
    have hp : parseOf s = (noChg, 4) := by rw [parseOf, if_neg (by omega)]
    have HP := Lib.hid hp
    clear hp
    have h2 : (s.size : Int) < 2 := by omega
    go_enter Try.func37, Try.ntmps37
    go_wp2_with fail
    refine bodyPost_ret (by simp [results, Try.results37, go_sem]; try rfl) rfl ?_
    exact Ret.of (by rw [HP.out]; rfl) (HB0.out _)
  have h2 : (2 : Int) ≤ (s.size : Int) := by omega
  have x0 := byteAt_eq s 0 (by omega)
  have x1 := byteAt_eq s 1 (by omega)
  have l0 := byteAt_lt s 0
  have l1 := byteAt_lt s 1
  generalize ha : byteAt s 0 = a at *
  generalize hb : byteAt s 1 = b at *
  have HA := Lib.hid ha
  have HB := Lib.hid hb
  clear ha hb
  have a0 : (0 : Int) ≤ (a : Int) := by omega
  have a1 : (a : Int) ≤ 255 := by omega
  have b0 : (0 : Int) ≤ (b : Int) := by omega
  have b1 : (b : Int) ≤ 255 := by omega
  by_cases ha : a ≤ 1
  case neg =>
    have hp : parseOf s = (noChg, 4) := by rw [parseOf, if_neg (by rw [HA.out]; omega)]
    have HP := Lib.hid hp
    clear hp
    have ha' : (1 : Int) < (a : Int) := by omega
    go_enter Try.func37, Try.ntmps37
    go_wp2_with fail
    refine bodyPost_ret (by simp [results, Try.results37, go_sem]; try rfl) rfl ?_
    exact Ret.of (by rw [HP.out]; rfl) (HB0.out _)
  have ha' : (a : Int) ≤ 1 := by omega
  by_cases hb : 2 + b ≤ s.size
  case neg =>
    have hp : parseOf s = (noChg, 4) := by rw [parseOf, if_neg (by rw [HB.out]; omega)]
    have HP := Lib.hid hp
    clear hp
    have hb' : (s.size : Int) < 2 + (b : Int) := by omega
    go_enter Try.func37, Try.ntmps37
    go_wp2_with fail
    refine bodyPost_ret (by simp [results, Try.results37, go_sem]; try rfl) rfl ?_
    exact Ret.of (by rw [HP.out]; rfl) (HB0.out _)
  have hb' : 2 + (b : Int) ≤ (s.size : Int) := by omega
  have p0 : (0 : Int) ≤ 2 + (b : Int) := by omega
  have p1 : (2 : Int) ≤ 2 + (b : Int) := by omega
  have p2 : (2 + (b : Int)).toNat = 2 + b := by omega
  go_enter Try.func37, Try.ntmps37
  go_wp2_with fail
  refine wp_region_plan (fun _ => True) 43 [([0, 1, 3, 4, 6, 2, 5, 7, 8, 9], [10], true), ([], [11], false)] (by kernel_rfl) (by kernel_rfl) ?_
  apply wpStages_keep
  case hT => trivial
  case hn => exact Nat.le_refl _
  case hq =>
    intro w2 _
    simp only [picked, List.filterMap_cons, List.filterMap_nil, List.getElem?_cons_zero, List.getElem?_cons_succ]
    repeat still_step
    exact wpStill_nil rfl
  simp only [picked, List.filterMap_cons, List.filterMap_nil, List.getElem?_cons_zero, List.getElem?_cons_succ]
  go_wp2_with fail
  refine OnlyNormal.mk ⟨trivial, ?_⟩
  apply wpStages_seq
  simp only [picked, List.filterMap_cons, List.filterMap_nil, List.getElem?_cons_zero, List.getElem?_cons_succ]
  go_wp2_with fail
  refine OnlyNormal.mk (wpStages_nil ?_)
  go_wp2_with fail
  have hg : ((a : Int) == 1) = (a == 1) := by
    by_cases h : a = 1
    · subst h; rfl
    · have h' : ¬ (a : Int) = 1 := by omega
      have e1 : ((a : Int) == 1) = false := by simpa using h'
      have e2 : (a == 1) = false := by simpa using h
      rw [e1, e2]
  rw [hg]
  have hraw : rawParse s = ⟨s.extract 2 (2 + b), s.extract (2 + b) s.size, a == 1⟩ := by rw [rawParse, HB.out, HA.out]
  generalize s.extract 2 (2 + b) = kk at *
  generalize s.extract (2 + b) s.size = vv at *
  generalize (a == 1) = g at *
  clear hg
  refine (fault_any kk vv g _).mono ?_
  rintro e w1 ⟨rfl, hB1⟩
  have HR := Lib.hid hraw
  clear hraw
  have s1 := size_alloc w (.cells #[.string ⟨#[]⟩, .string ⟨#[]⟩, .bool false] 64)
  have s2 := size_alloc (w.alloc (.cells #[.string ⟨#[]⟩, .string ⟨#[]⟩, .bool false] 64)) (.cells #[.string kk, .string vv, .bool g] 64)
  have f1 : w1.heap[w.heap.size]? = some (.cells #[.string ⟨#[]⟩, .string ⟨#[]⟩, .bool false] 64) := by
    rw [hB1.block _ (by rw [heap_drew]; omega), heap_drew, heap_alloc_old _ _ (by omega), heap_alloc_new]
  have f2 : w1.heap[w.heap.size + 1]? = some (.cells #[.string kk, .string vv, .bool g] 64) := by
    rw [hB1.block _ (by rw [heap_drew]; omega), heap_drew, ← s1, heap_alloc_new]
  have hB2 : Below w.heap.size w w1 := (((Below.refl _ w).alloc (Nat.le_refl _) _).alloc (by omega) _).drew.trans (hB1.mono (by rw [heap_drew]; omega))
  have z1 := frozen_of f1
  have z10 := z1 0
  have z11 := z1 1
  have z12 := z1 2
  have c10 := cell_of f1 0
  have c11 := cell_of f1 1
  have c12 := cell_of f1 2
  have c20 := cell_of f2 0
  have c21 := cell_of f2 1
  have c22 := cell_of f2 2
  simp only [List.getElem?_toArray, List.getElem?_cons_zero, List.getElem?_cons_succ] at c10 c11 c12 c20 c21 c22
  clear hB1 s1 s2 f1 f2 z1
  generalize hm : faultOf ⟨kk, vv, g⟩ = m
  have HM := Lib.hid hm
  clear hm
  by_cases h0 : m = 0
  · subst h0
    unfold errN
    go_wp2_with fail
    refine bodyPost_ret (by simp [results, Try.results37, go_sem, c10, c11, c12]; try rfl) rfl ?_
    have hp : parseOf s = (⟨kk, vv, g⟩, 0) := by rw [parseOf, if_pos ⟨h, by rw [HA.out]; exact ha, by rw [HB.out]; exact hb, by rw [HR.out]; exact HM.out⟩, HR.out]
    refine Ret.of (by rw [hp]; rfl) (((hB2.setCell (p := ⟨w.heap.size, 0, none⟩) (Nat.le_refl _) _).setCell (p := ⟨w.heap.size, 1, none⟩) (Nat.le_refl _) _).setCell (p := ⟨w.heap.size, 2, none⟩) (Nat.le_refl _) _)
  · have m0 : (0 : Int) < (m : Int) := by omega
    unfold errN
    have H0 := Lib.hid h0
    clear h0
    go_wp2_with fail
    refine bodyPost_ret (by simp [results, Try.results37, go_sem, c10, c11, c12]; try rfl) rfl ?_
    have hp : parseOf s = (noChg, 4) := by rw [parseOf, if_neg (fun hh => H0.out (by rw [← HM.out, ← HR.out]; exact hh.2.2.2))]
    refine Ret.of (by rw [hp]; rfl) (((hB2.setCell (p := ⟨w.heap.size, 0, none⟩) (Nat.le_refl _) _).setCell (p := ⟨w.heap.size, 1, none⟩) (Nat.le_refl _) _).setCell (p := ⟨w.heap.size, 2, none⟩) (Nat.le_refl _) _)

end Go.Proofs.Ytkapmpngglibjaa
