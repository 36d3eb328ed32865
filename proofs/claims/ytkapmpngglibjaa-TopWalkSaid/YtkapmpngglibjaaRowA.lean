/- A change: its fault, its bytes. Conditions: each contract's own premises. -/
import Derived.Test.YtkapmpngglibjaaOpen
import Derived.Test.YtkapmpngglibjaaSpins
namespace Go.Proofs.Ytkapmpngglibjaa
open Go Go.RowKit

/-- A change's fault, by its number. -/
def faultOf (c : Chg) : Nat := if (c.key.toList == []) = true ∨ (c.gone = true ∧ (c.val.toList == []) = false) then 3 else if 48 < c.key.size ∨ 44 < c.val.size then 2 else 0

set_option maxHeartbeats 1000000 in
theorem check_any (k v : ByteArray) (g : Bool) (w : World) :
    Calls Try.prog 38 #[.agg #[.string k, .string v, .bool g]] w (Ret (errV (faultOf ⟨k, v, g⟩)) fun w' => Below w.heap.size w w') := by
  by_cases h1 : (k.toList == []) = true
  · go_enter Try.func38, Try.ntmps38
    go_wp2
    all_goals go_ret
    all_goals refine Ret.of ?_ ((Below.refl _ _).alloc (Nat.le_refl _) _)
    all_goals simp [faultOf, h1, errV]
  · rw [Bool.not_eq_true] at h1
    cases g
    · go_enter Try.func38, Try.ntmps38
      go_wp2
      all_goals go_ret
      all_goals refine Ret.of ?_ ((Below.refl _ _).alloc (Nat.le_refl _) _)
      all_goals rw [faultOf, if_neg (by simp [h1])]
      all_goals first | (rw [if_pos (by simp only; omega)]; rfl) | (rw [if_neg (by simp only; omega)]; rfl)
    · by_cases h2 : (v.toList == []) = true
      · go_enter Try.func38, Try.ntmps38
        go_wp2
        all_goals go_ret
        all_goals refine Ret.of ?_ ((Below.refl _ _).alloc (Nat.le_refl _) _)
        all_goals rw [faultOf, if_neg (by simp [h1, h2])]
        all_goals first | (rw [if_pos (by simp only; omega)]; rfl) | (rw [if_neg (by simp only; omega)]; rfl)
      · rw [Bool.not_eq_true] at h2
        go_enter Try.func38, Try.ntmps38
        go_wp2
        all_goals go_ret
        all_goals refine Ret.of ?_ ((Below.refl _ _).alloc (Nat.le_refl _) _)
        all_goals rw [faultOf, if_pos (.inr ⟨rfl, h2⟩)]
        all_goals rfl

set_option maxHeartbeats 1000000 in
theorem fault_any (k v : ByteArray) (g : Bool) (w : World) :
    Calls Try.prog 39 #[.agg #[.string k, .string v, .bool g]] w (Ret (errN (faultOf ⟨k, v, g⟩)) fun w' => Below w.heap.size w w') := by
  by_cases h1 : (k.toList == []) = true
  · go_enter Try.func39, Try.ntmps39
    go_wp2
    all_goals go_ret
    all_goals refine Ret.of ?_ ((Below.refl _ _).alloc (Nat.le_refl _) _)
    all_goals simp [faultOf, h1, errN]
  · rw [Bool.not_eq_true] at h1
    cases g
    · go_enter Try.func39, Try.ntmps39
      go_wp2
      all_goals go_ret
      all_goals refine Ret.of ?_ ((Below.refl _ _).alloc (Nat.le_refl _) _)
      all_goals rw [faultOf, if_neg (by simp [h1])]
      all_goals first | (rw [if_pos (by simp only; omega)]; rfl) | (rw [if_neg (by simp only; omega)]; rfl)
    · by_cases h2 : (v.toList == []) = true
      · go_enter Try.func39, Try.ntmps39
        go_wp2
        all_goals go_ret
        all_goals refine Ret.of ?_ ((Below.refl _ _).alloc (Nat.le_refl _) _)
        all_goals rw [faultOf, if_neg (by simp [h1, h2])]
        all_goals first | (rw [if_pos (by simp only; omega)]; rfl) | (rw [if_neg (by simp only; omega)]; rfl)
      · rw [Bool.not_eq_true] at h2
        go_enter Try.func39, Try.ntmps39
        go_wp2
        all_goals go_ret
        all_goals refine Ret.of ?_ ((Below.refl _ _).alloc (Nat.le_refl _) _)
        all_goals rw [faultOf, if_pos (.inr ⟨rfl, h2⟩)]
        all_goals rfl

/-- A change's bytes. -/
def rawOf (c : Chg) : ByteArray := ⟨#[if c.gone then 1 else 0, UInt8.ofNat c.key.size]⟩ ++ c.key ++ c.val
def bytesOf (c : Chg) : ByteArray := if faultOf c = 0 then rawOf c else ByteArray.empty

theorem conv_two (u : World) (x y : Nat) (hx : x < 256) (hy : y < 256) :
    (convert 129 9 (.slice (some ⟨u.heap.size, 0, none⟩) 2 2)).run Try.prog (u.alloc (.cells #[.int .u8 (x : Int), .int .u8 (y : Int)] 5)) =
      .ok (.string ⟨#[UInt8.ofNat x, UInt8.ofNat y]⟩) (u.alloc (.cells #[.int .u8 (x : Int), .int .u8 (y : Int)] 5)) := by
  have hb := heap_alloc_new u (.cells #[.int .u8 (x : Int), .int .u8 (y : Int)] 5)
  have h := run_convert_bytes_back (P := Try.prog) (u.alloc (.cells #[.int .u8 (x : Int), .int .u8 (y : Int)] 5)) 129 9 5 ⟨u.heap.size, 0, none⟩ 2 [UInt8.ofNat x, UInt8.ofNat y] Try.underlying129 Try.underlying5 Try.underlying9
    (by
      intro j hj
      rw [add_off, Nat.zero_add, cell_of hb]
      match j, hj with
      | 0, _ => simp [Nat.mod_eq_of_lt hx]
      | 1, _ => simp [Nat.mod_eq_of_lt hy])
  simpa using h

set_option maxHeartbeats 1000000 in
set_option maxRecDepth 100000 in
theorem bytes_any (k v : ByteArray) (g : Bool) (w : World) :
    Calls Try.prog 34 #[.agg #[.string k, .string v, .bool g]] w (Ret (.tuple #[.string (bytesOf ⟨k, v, g⟩), errV (faultOf ⟨k, v, g⟩)]) fun w' => Below w.heap.size w w') := by
  go_enter Try.func34, Try.ntmps34
  go_wp2_with fail
  refine (check_any k v g _).mono ?_
  rintro e w1 ⟨rfl, hB⟩
  have hB1 : Below w.heap.size w w1 := ((Below.refl _ w).alloc (Nat.le_refl _) (.cells #[.string k, .string v, .bool g] 64)).trans (hB.mono (by simp))
  have hb := heap_alloc_new w (.cells #[.string k, .string v, .bool g] 64)
  rw [← hB.block w.heap.size (by simp)] at hb
  have c0 := cell_of hb 0
  have c1 := cell_of hb 1
  have c2 := cell_of hb 2
  simp only [List.getElem?_toArray, List.getElem?_cons_zero, List.getElem?_cons_succ] at c0 c1 c2
  generalize hm : faultOf ⟨k, v, g⟩ = m
  have HM := Lib.hid hm
  by_cases h0 : m = 0
  · subst h0
    have hk48 : k.size ≤ 48 ∧ v.size ≤ 44 := by
      unfold faultOf at hm
      split at hm
      · omega
      · split at hm
        · omega
        · simp only at *; omega
    obtain ⟨hk48, hv44⟩ := hk48
    have old : ∀ (x : Nat) (i : Nat) (u : Value), w1.cell? ⟨w.heap.size, i, none⟩ = some u → (w1.alloc (.cells #[.int .u8 (x : Int), .int .u8 (k.size : Int)] 5)).cell? ⟨w.heap.size, i, none⟩ = some u := fun x i u h => by
      have h2 := heap_alloc_old w1 (.cells #[.int .u8 (x : Int), .int .u8 (k.size : Int)] 5) (World.block_lt_of_cell? w1 _ h)
      rw [World.cell?_of_block (w := w1) h2]
      exact h
    have o0 := old 0 0 _ c0
    have o1 := old 0 1 _ c1
    have q0 := old 1 0 _ c0
    have q1 := old 1 1 _ c1
    simp only [Int.natCast_zero, Int.natCast_one] at o0 o1 q0 q1
    clear hm hb hB old
    have e0 : errV 0 = .nilIface := rfl
    rw [e0]
    clear e0
    have hc0 := conv_two w1 0 k.size (by omega) (by omega)
    have hc1 := conv_two w1 1 k.size (by omega) (by omega)
    simp only [Int.natCast_zero, Int.natCast_one] at hc0 hc1
    cases g
    · clear hc1 q0 q1
      go_wp2_with fail
      go_ret2
      refine Ret.of ?_ (hB1.alloc hB1.size _)
      rw [bytesOf, if_pos HM.out, HM.out]
      rfl
    · clear hc0 o0 o1
      go_wp2_with fail
      go_ret2
      refine Ret.of ?_ (hB1.alloc hB1.size _)
      rw [bytesOf, if_pos HM.out, HM.out]
      rfl
  · have e0 : errV m = .iface 101 (.int .i64 (m : Int)) := by simp [errV, h0]
    rw [e0]
    clear e0 hm hb hB
    have H0 := Lib.hid h0
    clear h0
    go_wp2_with fail
    all_goals go_ret2
    all_goals refine Ret.of ?_ hB1
    all_goals (rw [bytesOf, if_neg (by rw [HM.out]; exact H0.out), HM.out, show errV m = .iface 101 (.int .i64 (m : Int)) by simp [errV, H0.out]]; rfl)
set_option maxHeartbeats 1000000 in
set_option maxRecDepth 100000 in
theorem rbytes_any (k v : ByteArray) (g : Bool) (w : World) :
    Calls Try.prog 35 #[.agg #[.string k, .string v, .bool g]] w (Ret (.tuple #[.string (bytesOf ⟨k, v, g⟩), errN (faultOf ⟨k, v, g⟩)]) fun w' => Below w.heap.size w w') := by
  go_enter Try.func35, Try.ntmps35
  go_wp2_with fail
  refine (fault_any k v g _).mono ?_
  rintro e w1 ⟨rfl, hB⟩
  have hB1 : Below w.heap.size w w1 := ((Below.refl _ w).alloc (Nat.le_refl _) (.cells #[.string k, .string v, .bool g] 64)).trans (hB.mono (by simp))
  have hb := heap_alloc_new w (.cells #[.string k, .string v, .bool g] 64)
  rw [← hB.block w.heap.size (by simp)] at hb
  have c0 := cell_of hb 0
  have c1 := cell_of hb 1
  have c2 := cell_of hb 2
  simp only [List.getElem?_toArray, List.getElem?_cons_zero, List.getElem?_cons_succ] at c0 c1 c2
  generalize hm : faultOf ⟨k, v, g⟩ = m
  have HM := Lib.hid hm
  by_cases h0 : m = 0
  · subst h0
    have hk48 : k.size ≤ 48 ∧ v.size ≤ 44 := by
      unfold faultOf at hm
      split at hm
      · omega
      · split at hm
        · omega
        · simp only at *; omega
    obtain ⟨hk48, hv44⟩ := hk48
    have old : ∀ (x : Nat) (i : Nat) (u : Value), w1.cell? ⟨w.heap.size, i, none⟩ = some u → (w1.alloc (.cells #[.int .u8 (x : Int), .int .u8 (k.size : Int)] 5)).cell? ⟨w.heap.size, i, none⟩ = some u := fun x i u h => by
      have h2 := heap_alloc_old w1 (.cells #[.int .u8 (x : Int), .int .u8 (k.size : Int)] 5) (World.block_lt_of_cell? w1 _ h)
      rw [World.cell?_of_block (w := w1) h2]
      exact h
    have o0 := old 0 0 _ c0
    have o1 := old 0 1 _ c1
    have q0 := old 1 0 _ c0
    have q1 := old 1 1 _ c1
    simp only [Int.natCast_zero, Int.natCast_one] at o0 o1 q0 q1
    clear hm hb hB old
    unfold errN
    have hc0 := conv_two w1 0 k.size (by omega) (by omega)
    have hc1 := conv_two w1 1 k.size (by omega) (by omega)
    simp only [Int.natCast_zero, Int.natCast_one] at hc0 hc1
    cases g
    · clear hc1 q0 q1
      go_wp2_with fail
      go_ret2
      refine Ret.of ?_ (hB1.alloc hB1.size _)
      rw [bytesOf, if_pos HM.out, HM.out]
      rfl
    · clear hc0 o0 o1
      go_wp2_with fail
      go_ret2
      refine Ret.of ?_ (hB1.alloc hB1.size _)
      rw [bytesOf, if_pos HM.out, HM.out]
      rfl
  · have m0 : (0 : Int) < (m : Int) := by omega
    unfold errN
    clear hm hb hB
    have H0 := Lib.hid h0
    clear h0
    go_wp2_with fail
    all_goals go_ret2
    all_goals refine Ret.of ?_ hB1
    all_goals (rw [bytesOf, if_neg (by rw [HM.out]; exact H0.out), HM.out]; rfl)

end Go.Proofs.Ytkapmpngglibjaa
