/- The law Names, walked: the numbers are those; the errors are those; an error's text. Conditions: each contract's own premises. -/
import Derived.Test.YtkapmpngglibjaaDoorRows
import Derived.WalkKit
import Derived.WalkSpells
import Derived.WalkLawsBesides
import Derived.Lib.Hide
import Derived.ProofKit
import Derived.BigQuiet
namespace Go.Proofs.YtkapmpngglibjaaDoor
open Go Go.RowKit

/-- A call's end: it returns v, in a world of which R holds. (A name, so that no walk looks into it.) -/
def Ret (v : Value) (R : World → Prop) (e : Ending) (w' : World) : Prop := e = .returned v ∧ R w'
theorem Ret.of {v v' : Value} {R : World → Prop} {w' : World} (h : v' = v) (hR : R w') : Ret v R (.returned v') w' := ⟨by rw [h], hR⟩

/-- An error of the package, by its number; 0: none. -/
def errV (n : Nat) : Value := if n = 0 then .nilIface else .iface 23 (.int .i64 n)

theorem run_assert_errno (v : Value) (w : World) : (Instr.typeAssert (.iface 23 v) 27 23 true).run Tryd.prog w = .ok (.tuple #[v, .bool true]) w := by
  simp [Instr.typeAssert, run_underlying Tryd.underlying23]

set_option maxHeartbeats 400000 in
theorem same_any (m : Nat) (f : Int) (w : World) :
    Calls Tryd.prog 5 #[errV m, .int .i64 f] w (Ret (.bool (decide ((m : Int) = f))) fun w' => w = w') := by
  by_cases hm : m = 0
  · subst hm
    by_cases hf : f = 0
    · subst hf
      simp only [errV, if_true]
      go_enter Tryd.func5, Tryd.ntmps5
      go_wp2
      go_ret
      exact Ret.of rfl rfl
    · have hf' : (f == 0) = false := by simpa using hf
      have HF := Lib.hid hf
      clear hf
      simp only [errV, if_true]
      go_enter Tryd.func5, Tryd.ntmps5
      go_wp2
      go_ret
      refine Ret.of ?_ rfl
      have : ¬ ((0 : Nat) : Int) = f := fun e => HF.out (by omega)
      rw [decide_eq_false this]
      rfl
  · have e : errV m = .iface 23 (.int .i64 (m : Int)) := by simp [errV, hm]
    rw [e]
    clear e
    have hm' : (0 : Int) < (m : Int) := by omega
    have hta := fun w => run_assert_errno (.int .i64 (m : Int)) w
    have HM := Lib.hid hm
    clear hm
    by_cases h0 : 0 < f
    · by_cases hf : (m : Int) = f
      · have hb : ((m : Int) == f) = true := by simpa using hf
        have HF := Lib.hid hf
        clear hf
        go_enter Tryd.func5, Tryd.ntmps5
        go_wp2
        go_ret
        refine Ret.of ?_ rfl
        rw [decide_eq_true HF.out]
        rfl
      · have hb : ((m : Int) == f) = false := by simpa using hf
        have HF := Lib.hid hf
        clear hf
        go_enter Tryd.func5, Tryd.ntmps5
        go_wp2
        go_ret
        refine Ret.of ?_ rfl
        rw [decide_eq_false HF.out]
        rfl
    · go_enter Tryd.func5, Tryd.ntmps5
      go_wp2
      go_ret
      refine Ret.of ?_ rfl
      rw [decide_eq_false (by omega)]
      rfl


set_option maxRecDepth 100000 in
theorem small_ten (w : World) : Calls Tryd.prog 24 #[.int .i64 10] w (Ret (.string ⟨#[49, 48]⟩) fun w' => w = w') := by
  go_enter Tryd.func24, Tryd.ntmps24
  go_wp2
  go_ret
  exact Ret.of (by kernel_rfl) rfl

set_option maxRecDepth 100000 in
theorem format_ten (w : World) : Calls Tryd.prog 21 #[.int .i64 10, .int .i64 10] w (Ret (.string ⟨#[49, 48]⟩) fun w' => w = w') := by
  go_enter Tryd.func21, Tryd.ntmps21
  go_wp2_with fail
  refine (small_ten _).mono ?_
  rintro e w1 ⟨rfl, rfl⟩
  go_wp2_with fail
  go_ret
  exact Ret.of rfl rfl

theorem itoa_ten (w : World) : Calls Tryd.prog 18 #[.int .i64 10] w (Ret (.string ⟨#[49, 48]⟩) fun w' => w = w') := by
  go_enter Tryd.func18, Tryd.ntmps18
  go_wp2_with fail
  refine (format_ten _).mono ?_
  rintro e w1 ⟨rfl, rfl⟩
  go_wp2_with fail
  go_ret
  exact Ret.of rfl rfl

theorem itoa_ten' (w : World) : Calls Tryd.prog 12 #[.int .i64 10] w (Ret (.string ⟨#[49, 48]⟩) fun w' => w = w') := by
  go_enter Tryd.func12, Tryd.ntmps12
  go_wp2_with fail
  refine (itoa_ten _).mono ?_
  rintro e w1 ⟨rfl, rfl⟩
  go_wp2_with fail
  go_ret
  exact Ret.of rfl rfl

theorem error_ten (w : World) : Calls Tryd.prog 7 #[.int .i64 10] w (Ret (.string ⟨#[106, 111, 98, 99, 97, 115, 101, 58, 32, 101, 114, 114, 111, 114, 32, 49, 48]⟩) fun w' => w = w') := by
  go_enter Tryd.func7, Tryd.ntmps7
  go_wp2_with fail
  refine (itoa_ten' _).mono ?_
  rintro e w1 ⟨rfl, rfl⟩
  go_wp2_with fail
  go_ret
  exact Ret.of (by kernel_rfl) rfl

/-- Two slices that hold the same numbers. -/
theorem sameNumbers_any (b c n cap cap' : Nat) (l : List Int) (w : World) (hl : l.length = n) (hn : n ≤ 100)
    (hb : ∀ k z, l[k]? = some z → w.cell? ⟨b, k, none⟩ = some (.int .i64 z)) (hc : ∀ k z, l[k]? = some z → w.cell? ⟨c, k, none⟩ = some (.int .i64 z)) :
    Calls Tryd.prog 6 #[.slice (some ⟨b, 0, none⟩) n cap, .slice (some ⟨c, 0, none⟩) n cap'] w (Ret (.bool true) fun w' => w.heap.size ≤ w'.heap.size ∧ Below w.heap.size w w') := by
  have HL := Lib.hid hl
  have HB := Lib.hid hb
  have HC := Lib.hid hc
  clear hl hb hc
  have n0 : (0 : Int) ≤ (n : Int) := by omega
  have n1 : (n : Int) ≤ 100 := by omega
  go_enter Tryd.func6, Tryd.ntmps6
  go_wp2_with fail
  go_loopw [5] (fun i wr => ∃ k : Nat, k ≤ n ∧ i = .int .i64 (k : Int) ∧ Below w.heap.size w wr) (fun i _ => n - (intOf i).toNat)
  case atStart => exact ⟨0, by omega, rfl, Below.refl _ _⟩
  case round =>
    obtain ⟨k, hk, rfl, hB⟩ := hrel
    have b0 : (0 : Int) ≤ (k : Int) := by omega
    by_cases hlt : k < n
    · have b1 : (k : Int) < (n : Int) := by omega
      obtain ⟨z, hz⟩ : ∃ z, l[k]? = some z := ⟨_, List.getElem?_eq_getElem (by rw [HL.out]; exact hlt)⟩
      have h1 := HB.out k z hz
      have h2 := HC.out k z hz
      have c1 : wr.cell? ⟨b, k, none⟩ = some (.int .i64 z) := (hB.cell (p := ⟨b, k, none⟩) (World.block_lt_of_cell? w _ h1)).trans h1
      have c2 : wr.cell? ⟨c, k, none⟩ = some (.int .i64 z) := (hB.cell (p := ⟨c, k, none⟩) (World.block_lt_of_cell? w _ h2)).trans h2
      clear h1 h2 hz
      go_wp2_with fail
      go_quiet (fail)
      go_wp2_with fail
      go_roundw
      case rel => exact ⟨k + 1, by omega, by go_num, ⟨hB.os, hB.tape, hB.output, hB.size, hB.block⟩⟩
      case measure => simp [intOf]; omega
    · obtain rfl : k = n := by omega
      go_wp2_with fail
      go_ret
      exact Ret.of rfl ⟨hB.size, hB⟩


theorem heap_alloc_new (w : World) (o : Obj) : (w.alloc o).heap[w.heap.size]? = some o := by
  show (w.heap.push o)[w.heap.size]? = _
  simp
theorem heap_alloc_old (w : World) (o : Obj) {k : Nat} (h : k < w.heap.size) : (w.alloc o).heap[k]? = w.heap[k]? := Below.heap_alloc w o k h
theorem size_alloc (w : World) (o : Obj) : (w.alloc o).heap.size = w.heap.size + 1 := by
  show (w.heap.push o).size = _
  simp
theorem cell_of {w : World} {b : Nat} {c : Array Value} {e : TypeId} {f : Nat × Nat} (h : w.heap[b]? = some (.cells c e f)) (i : Nat) : w.cell? ⟨b, i, none⟩ = c[i]? := by
  simp only [World.cell?, h]
  rfl

def nums : List Int := [24, 12, 20, 16, 999, 6, 80, 48, 44, 12, 64, 140, 130, 80, 80, 1, 2, 1]

/-- What the law lays in memory: the numbers twice, the errors. -/
theorem names_world (w : World) (a : Obj) (c : Obj) : Below w.heap.size w (((w.alloc a).alloc a).alloc c) ∧ (((w.alloc a).alloc a).alloc c).heap[w.heap.size]? = some a ∧
    (((w.alloc a).alloc a).alloc c).heap[w.heap.size + 1]? = some a ∧ (((w.alloc a).alloc a).alloc c).heap[w.heap.size + 1 + 1]? = some c := by
  have s1 := size_alloc w a
  have s2 := size_alloc (w.alloc a) a
  refine ⟨(((Below.refl _ w).alloc (Nat.le_refl _) a).alloc (by omega) a).alloc (by omega) c, ?_, ?_, ?_⟩
  · rw [heap_alloc_old _ _ (by omega), heap_alloc_old _ _ (by omega), heap_alloc_new]
  · rw [heap_alloc_old _ _ (by omega), ← s1, heap_alloc_new]
  · have := heap_alloc_new ((w.alloc a).alloc a) c
    rw [s2, s1] at this
    exact this

theorem nums_at {w : World} {b : Nat} (h : w.heap[b]? = some (.cells #[.int .i64 24, .int .i64 12, .int .i64 20, .int .i64 16, .int .i64 999, .int .i64 6, .int .i64 80, .int .i64 48, .int .i64 44, .int .i64 12, .int .i64 64, .int .i64 140, .int .i64 130, .int .i64 80, .int .i64 80, .int .i64 1, .int .i64 2, .int .i64 1] 3)) : ∀ k z, nums[k]? = some z → w.cell? ⟨b, k, none⟩ = some (.int .i64 z) := by
  intro k z hk
  have e : (#[.int .i64 24, .int .i64 12, .int .i64 20, .int .i64 16, .int .i64 999, .int .i64 6, .int .i64 80, .int .i64 48, .int .i64 44, .int .i64 12, .int .i64 64, .int .i64 140, .int .i64 130, .int .i64 80, .int .i64 80, .int .i64 1, .int .i64 2, .int .i64 1] : Array Value) = (nums.map (Value.int .i64)).toArray := rfl
  rw [e] at h
  rw [cell_of h]
  simp [hk]

theorem errs_at {w : World} {b : Nat} (h : w.heap[b]? = some (.cells #[.iface 23 (.int .i64 1), .iface 23 (.int .i64 2), .iface 23 (.int .i64 3), .iface 23 (.int .i64 4), .iface 23 (.int .i64 5), .iface 23 (.int .i64 6), .iface 23 (.int .i64 7), .iface 23 (.int .i64 8), .iface 23 (.int .i64 9), .iface 23 (.int .i64 10)] 27)) : ∀ k, k < 10 → w.cell? ⟨b, k, none⟩ = some (errV (k + 1)) := by
  intro k hk
  have e : (#[.iface 23 (.int .i64 1), .iface 23 (.int .i64 2), .iface 23 (.int .i64 3), .iface 23 (.int .i64 4), .iface 23 (.int .i64 5), .iface 23 (.int .i64 6), .iface 23 (.int .i64 7), .iface 23 (.int .i64 8), .iface 23 (.int .i64 9), .iface 23 (.int .i64 10)] : Array Value) = ((List.range 10).map fun i => errV (i + 1)).toArray := rfl
  rw [e] at h
  rw [cell_of h]
  simp [hk]

set_option maxRecDepth 100000 in
set_option maxHeartbeats 1000000 in
theorem names_any (w : World) : Calls Tryd.prog 3 #[] w (Ret (.bool true) fun w' => Below w.heap.size w w') := by
  go_enter Tryd.func3, Tryd.ntmps3
  go_wp2_with fail
  obtain ⟨hB, h0, h1, h2⟩ := names_world w (.cells #[.int .i64 24, .int .i64 12, .int .i64 20, .int .i64 16, .int .i64 999, .int .i64 6, .int .i64 80, .int .i64 48, .int .i64 44, .int .i64 12, .int .i64 64, .int .i64 140, .int .i64 130, .int .i64 80, .int .i64 80, .int .i64 1, .int .i64 2, .int .i64 1] 3) (.cells #[.iface 23 (.int .i64 1), .iface 23 (.int .i64 2), .iface 23 (.int .i64 3), .iface 23 (.int .i64 4), .iface 23 (.int .i64 5), .iface 23 (.int .i64 6), .iface 23 (.int .i64 7), .iface 23 (.int .i64 8), .iface 23 (.int .i64 9), .iface 23 (.int .i64 10)] 27)
  have n1 := nums_at h0
  have n2 := nums_at h1
  have es := errs_at h2
  have N1 := Lib.hid n1
  have N2 := Lib.hid n2
  have ES := Lib.hid es
  generalize (((w.alloc (.cells #[.int .i64 24, .int .i64 12, .int .i64 20, .int .i64 16, .int .i64 999, .int .i64 6, .int .i64 80, .int .i64 48, .int .i64 44, .int .i64 12, .int .i64 64, .int .i64 140, .int .i64 130, .int .i64 80, .int .i64 80, .int .i64 1, .int .i64 2, .int .i64 1] 3)).alloc (.cells #[.int .i64 24, .int .i64 12, .int .i64 20, .int .i64 16, .int .i64 999, .int .i64 6, .int .i64 80, .int .i64 48, .int .i64 44, .int .i64 12, .int .i64 64, .int .i64 140, .int .i64 130, .int .i64 80, .int .i64 80, .int .i64 1, .int .i64 2, .int .i64 1] 3)).alloc (.cells #[.iface 23 (.int .i64 1), .iface 23 (.int .i64 2), .iface 23 (.int .i64 3), .iface 23 (.int .i64 4), .iface 23 (.int .i64 5), .iface 23 (.int .i64 6), .iface 23 (.int .i64 7), .iface 23 (.int .i64 8), .iface 23 (.int .i64 9), .iface 23 (.int .i64 10)] 27)) = w3 at *
  clear h0 h1 h2 n1 n2 es
  go_loop [4] (fun i => ∃ k : Nat, k ≤ 10 ∧ i = .int .i64 (k : Int)) (fun i => 10 - (intOf i).toNat)
  case atStart => exact ⟨0, by omega, rfl⟩
  case round =>
    obtain ⟨k, hk, rfl⟩ := hrel
    have b0 : (0 : Int) ≤ (k : Int) := by omega
    by_cases hlt : k < 10
    · have b1 : (k : Int) < 10 := by omega
      have hc := ES.out k hlt
      generalize hv : errV (k + 1) = v at hc
      have HV := Lib.hid hv
      clear hv
      go_wp2_with fail
      rw [← HV.out]
      refine (same_any (k + 1) _ _).mono ?_
      rintro e w4 ⟨rfl, rfl⟩
      rw [decide_eq_true (by omega)]
      go_wp2_with fail
      go_round
      case rel => exact ⟨k + 1, by omega, by go_num⟩
      case measure => simp [intOf]; omega
    · have hk10 : (10 : Int) ≤ (k : Int) := by omega
      go_wp2_with fail
      refine (sameNumbers_any _ _ 18 18 18 nums _ rfl (by omega) N1.out N2.out).mono ?_
      rintro e w4 ⟨rfl, -, hB4⟩
      have hB5 := hB.trans (hB4.mono hB.size)
      go_wp2_with fail
      refine (error_ten _).mono ?_
      rintro e w5 ⟨rfl, rfl⟩
      go_wp2_with fail
      go_ret
      exact Ret.of rfl hB5
end Go.Proofs.YtkapmpngglibjaaDoor
