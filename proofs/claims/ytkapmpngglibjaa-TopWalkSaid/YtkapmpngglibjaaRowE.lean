/- strings.Compare, and the search for a key among rows that rise. Conditions: each contract's own premises. -/
import Derived.Test.YtkapmpngglibjaaRowC
import Derived.Test.YtkapmpngglibjaaOrd
import Derived.Lib.Strings
import Derived.Lib.Slices
import Derived.Lib.Walk
namespace Go.Proofs.Ytkapmpngglibjaa
open Go Go.RowKit

def cmpOf (a b : ByteArray) : Int := Lib.compareBytes a.data.toList b.data.toList

set_option maxHeartbeats 1000000 in
set_option maxRecDepth 100000 in
theorem compareString_any (a b : ByteArray) (w : World) : Calls Try.prog 102 #[.string a, .string b] w (Ret (.int .i64 (cmpOf a b)) fun w' => w = w') := by
  go_enter Try.func102, Try.ntmps102
  go_wp2
  rw [run_callFunc_extern Try.func115 (by kernel_rfl) (by kernel_rfl) (by kernel_rfl) (e := Extern.BytealgCompare.compare) (by kernel_rfl), Lib.run_compareString]
  simp only [Result.andThen]
  rw [Oper.upon_value]
  go_wp2
  go_ret
  exact Ret.of rfl rfl

set_option maxHeartbeats 1000000 in
theorem compare_any (a b : ByteArray) (w : World) : Calls Try.prog 79 #[.string a, .string b] w (Ret (.int .i64 (cmpOf a b)) fun w' => w = w') := by
  go_enter Try.func79, Try.ntmps79
  go_wp2_with fail
  refine (compareString_any a b _).mono ?_
  rintro e w1 ⟨rfl, rfl⟩
  go_wp2_with fail
  go_ret
  exact Ret.of rfl rfl

set_option maxHeartbeats 1000000 in
theorem closure78 (k v : ByteArray) (g : Bool) (b : ByteArray) (w : World) : Calls Try.prog 78 #[.agg #[.string k, .string v, .bool g], .string b] w (Ret (.int .i64 (cmpOf k b)) fun w' => Below w.heap.size w w') := by
  go_enter Try.func78, Try.ntmps78
  go_wp2_with fail
  refine (compare_any k b _).mono ?_
  rintro e w1 ⟨rfl, rfl⟩
  go_wp2_with fail
  go_ret
  exact Ret.of rfl ((Below.refl _ _).alloc (Nat.le_refl _) _)

theorem cmpOf_lt (a b : ByteArray) : decide (cmpOf a b < 0) = bl a.toList b.toList := by rw [cmpOf, cmp_lt, ByteArray.toList_eq, ByteArray.toList_eq]
theorem cmpOf_eq (a b : ByteArray) : decide (cmpOf a b = 0) = (a.toList == b.toList) := by
  rw [cmpOf, ByteArray.toList_eq, ByteArray.toList_eq, Bool.eq_iff_iff, decide_eq_true_iff, cmp_eq0, beq_iff_eq]

/-- Rows rise by their keys. -/
def Rising (l : List Chg) : Prop := l.Pairwise fun a b => bl a.key.toList b.key.toList = true

/-- The place where a key is, or would come; and is it there? -/
def lowOf (l : List Chg) (k : ByteArray) : Nat := (l.takeWhile fun c => bl c.key.toList k.toList).length
def hasAt (l : List Chg) (k : ByteArray) : Bool := match l[lowOf l k]? with | some c => c.key.toList == k.toList | none => false

theorem low_le (l : List Chg) (k : ByteArray) : lowOf l k ≤ l.length := by
  unfold lowOf
  exact (List.takeWhile_sublist _).length_le

theorem low_unique : ∀ (l : List Chg) (k : ByteArray) (i : Nat), i ≤ l.length → (∀ (j : Nat) (c : Chg), j < i → l[j]? = some c → bl c.key.toList k.toList = true) →
    (∀ c, l[i]? = some c → bl c.key.toList k.toList = false) → lowOf l k = i
  | [], k, i, hi, _, _ => by
    obtain rfl : i = 0 := by simpa using hi
    rfl
  | c :: l, k, 0, _, _, h2 => by
    have := h2 c rfl
    simp [lowOf, this]
  | c :: l, k, i + 1, hi, h1, h2 => by
    have h0 := h1 0 c (Nat.succ_pos i) rfl
    have ih := low_unique l k i (by simpa using hi) (fun j d hj hd => h1 (j + 1) d (by omega) (by simpa using hd)) (fun d hd => h2 d (by simpa using hd))
    unfold lowOf at *
    simp [h0, ih]

theorem rising_get {l : List Chg} (h : Rising l) {i j : Nat} {a b : Chg} (hij : i < j) (ha : l[i]? = some a) (hb : l[j]? = some b) : bl a.key.toList b.key.toList = true := by
  obtain ⟨hi, rfl⟩ := List.getElem?_eq_some_iff.1 ha
  obtain ⟨hj, rfl⟩ := List.getElem?_eq_some_iff.1 hb
  exact List.pairwise_iff_getElem.1 h i j hi hj hij

set_option maxHeartbeats 2000000 in
set_option maxRecDepth 100000 in
theorem searchC_any (v : Value) (l : List Chg) (k : ByteArray) (w : World) (h : ChangesAt w v l) (hn : l.length ≤ 1000) (hs : Rising l) :
    Calls Try.prog 77 #[v, .string k, .func (.func 78) #[] #[]] w (Ret (.tuple #[.int .i64 (lowOf l k : Int), .bool (hasAt l k)]) fun w' => Below w.heap.size w w') := by
  obtain ⟨ao, cap, rfl, hm, hr⟩ := h
  simp only [List.length_map] at *
  obtain ⟨n, hnn⟩ : ∃ n, n = l.length := ⟨_, rfl⟩
  rw [← hnn] at hn ⊢
  have HR := Lib.hid hr
  have HN := Lib.hid hnn
  have HS := Lib.hid hs
  clear hr hnn hm hs
  have n0 : (0 : Int) ≤ (n : Int) := by omega
  have n1 : (n : Int) ≤ 1000 := by omega
  go_enter Try.func77, Try.ntmps77
  go_wp2_with fail
  go_loopw [9, 10] (fun i j wr => ∃ x y : Nat, x ≤ y ∧ y ≤ n ∧ i = .int .i64 (x : Int) ∧ j = .int .i64 (y : Int) ∧ Below w.heap.size w wr ∧
    Hid (∀ (p : Nat) (c : Chg), p < x → l[p]? = some c → bl c.key.toList k.toList = true) ∧ Hid (∀ (p : Nat) (c : Chg), y ≤ p → l[p]? = some c → bl c.key.toList k.toList = false)) (fun i j _ => (intOf j).toNat - (intOf i).toNat)
  case atStart =>
    exact ⟨0, n, Nat.zero_le _, Nat.le_refl _, rfl, rfl, Below.refl _ _, fun p c hp => absurd hp (Nat.not_lt_zero _), fun p c hp hc => by
      have := (List.getElem?_eq_some_iff.1 hc).1
      have := HN.out
      omega⟩
  case round =>
    obtain ⟨x, y, hxy, hyn, rfl, rfl, hB, H1, H2⟩ := hrel
    have x0 : (0 : Int) ≤ (x : Int) := by omega
    have y0 : (0 : Int) ≤ (y : Int) := by omega
    have y1 : (y : Int) ≤ 1000 := by omega
    by_cases hlt : x < y
    · have hlt' : (x : Int) < (y : Int) := by omega
      have m1 : x ≤ (x + y) / 2 := by omega
      have m2 : (x + y) / 2 < y := by omega
      have m3 : (x + y) / 2 < n := by omega
      obtain ⟨⟨ak, av, ag⟩, ha⟩ : ∃ a, l[(x + y) / 2]? = some a := ⟨_, List.getElem?_eq_getElem (by rw [← HN.out]; exact m3)⟩
      have HA := Lib.hid ha
      obtain ⟨b, off, rfl, e1⟩ := HR.out ((x + y) / 2) _ (by rw [List.getElem?_map, ha]; rfl)
      have up : ∀ (a : Addr) (u : Value), w.cell? a = some u → wr.cell? a = some u := fun a u hu => (hB.cell (World.block_lt_of_cell? w _ hu)).trans hu
      have c0 := up _ _ (e1 0 _ rfl)
      have c1 := up _ _ (e1 1 _ rfl)
      have c2 := up _ _ (e1 2 _ rfl)
      simp only [Nat.add_zero] at c0
      clear up e1 ha
      go_wp2_with fail
      refine (closure78 ak av ag k wr).mono ?_
      rintro e w1 ⟨rfl, hB1⟩
      have hB2 := hB.trans (hB1.mono hB.size)
      clear hB1 c0 c1 c2
      by_cases hc : cmpOf ak k < 0
      · have h1 : ∀ (p : Nat) (c : Chg), p < (x + y) / 2 + 1 → l[p]? = some c → bl c.key.toList k.toList = true := fun p c hp hcp => by
          have e0 : bl ak.toList k.toList = true := by rw [← cmpOf_lt]; exact decide_eq_true hc
          by_cases hpe : p = (x + y) / 2
          · subst hpe
            rw [HA.out] at hcp
            cases hcp
            exact e0
          · exact bl_trans _ _ _ (rising_get HS.out (by omega : p < (x + y) / 2) hcp HA.out) e0
        have H1' := Lib.hid h1
        clear h1
        go_wp2_with fail
        exact ⟨⟨(x + y) / 2 + 1, y, by omega, hyn, by go_num, rfl, hB2, H1', H2⟩, by simp [intOf]; omega⟩
      · have h2 : ∀ (p : Nat) (c : Chg), (x + y) / 2 ≤ p → l[p]? = some c → bl c.key.toList k.toList = false := fun p c hp hcp => by
          have e0 : bl ak.toList k.toList = false := by rw [← cmpOf_lt]; exact decide_eq_false hc
          by_cases hpe : p = (x + y) / 2
          · subst hpe
            rw [HA.out] at hcp
            cases hcp
            exact e0
          · rw [← Bool.not_eq_true]
            intro h3
            have := bl_trans _ _ _ (rising_get HS.out (by omega : (x + y) / 2 < p) HA.out hcp) h3
            rw [e0] at this
            cases this
        have H2' := Lib.hid h2
        clear h2
        go_wp2_with fail
        exact ⟨⟨x, (x + y) / 2, m1, by omega, rfl, by go_num, hB2, H1, H2'⟩, by simp [intOf]; omega⟩
    · obtain rfl : x = y := by omega
      have hlow : lowOf l k = x := low_unique l k x (by rw [← HN.out]; exact hyn) H1.out (fun c hc => H2.out x c (Nat.le_refl _) hc)
      have HL := Lib.hid hlow
      clear hlow
      by_cases hxn : x < n
      · have hxn' : (x : Int) < (n : Int) := by omega
        obtain ⟨⟨ak, av, ag⟩, ha⟩ : ∃ a, l[x]? = some a := ⟨_, List.getElem?_eq_getElem (by rw [← HN.out]; exact hxn)⟩
        have HA := Lib.hid ha
        obtain ⟨b, off, rfl, e1⟩ := HR.out x _ (by rw [List.getElem?_map, ha]; rfl)
        have up : ∀ (a : Addr) (u : Value), w.cell? a = some u → wr.cell? a = some u := fun a u hu => (hB.cell (World.block_lt_of_cell? w _ hu)).trans hu
        have c0 := up _ _ (e1 0 _ rfl)
        have c1 := up _ _ (e1 1 _ rfl)
        have c2 := up _ _ (e1 2 _ rfl)
        simp only [Nat.add_zero] at c0
        clear up e1 ha
        go_wp2_with fail
        refine (closure78 ak av ag k wr).mono ?_
        rintro e w1 ⟨rfl, hB1⟩
        have hB2 := hB.trans (hB1.mono hB.size)
        clear hB1 c0 c1 c2
        have hh : hasAt l k = decide (cmpOf ak k = 0) := by rw [hasAt, HL.out, HA.out, cmpOf_eq]
        have HH := Lib.hid hh
        clear hh
        go_wp2_with fail
        go_ret2
        exact Ret.of (by rw [HL.out, HH.out]; rfl) hB2
      · obtain rfl : x = n := by omega
        have hh : hasAt l k = false := by
          rw [hasAt, HL.out, List.getElem?_eq_none (by rw [← HN.out]; exact Nat.le_refl _)]
        have HH := Lib.hid hh
        clear hh
        go_wp2_with fail
        go_ret2
        exact Ret.of (by rw [HL.out, HH.out]; rfl) hB

end Go.Proofs.Ytkapmpngglibjaa
