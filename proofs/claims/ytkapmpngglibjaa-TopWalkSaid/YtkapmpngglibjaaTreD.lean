/- Items of a node: where a key is. Conditions: each contract's own premises. -/
import Derived.Test.YtkapmpngglibjaaTreC
import Derived.Test.YtkapmpngglibjaaRowH
namespace Go.Proofs.Ytkapmpngglibjaa
open Go Go.RowKit

structure Itm where
  key : ByteArray
  name : ByteArray
  node : Int

def Itm.cells (x : Itm) : List Value := [.string x.key, .string x.name, .int .i64 x.node]
def Itm.v (x : Itm) : Value := .agg #[.string x.key, .string x.name, .int .i64 x.node]
def flI (l : List Itm) : List Value := (l.map Itm.cells).flatten
/-- Items as rows: their keys alone. -/
def Itm.c (x : Itm) : Chg := ⟨x.key, ⟨#[]⟩, false⟩
def KI (l : List Itm) : List Chg := l.map Itm.c
theorem KI_get (l : List Itm) (i : Nat) : (KI l)[i]? = (l[i]?).map Itm.c := by rw [KI, List.getElem?_map]
theorem KI_len (l : List Itm) : (KI l).length = l.length := List.length_map ..
theorem flI_append (a b : List Itm) : flI (a ++ b) = flI a ++ flI b := by simp [flI]
theorem flI_cons (c : Itm) (b : List Itm) : flI (c :: b) = c.cells ++ flI b := by simp [flI]
theorem flI_len (l : List Itm) : (flI l).length = l.length * 3 := by
  have := flatten_length (s := 3) (l.map Itm.cells) (fun r hr => by obtain ⟨x, -, rfl⟩ := List.mem_map.1 hr; rfl)
  rw [List.length_map] at this
  exact this
theorem flI_one (l : List Itm) : ∀ u ∈ flI l, u.oneCell' = true := fun u hu => by
  obtain ⟨r, hr, hu⟩ := List.mem_flatten.1 hu
  obtain ⟨x, -, rfl⟩ := List.mem_map.1 hr
  simp only [Itm.cells, List.mem_cons, List.not_mem_nil, or_false] at hu
  rcases hu with rfl | rfl | rfl <;> rfl
theorem flI_get (l : List Itm) (i j : Nat) (x : Itm) (hj : j < 3) (h : l[i]? = some x) : (flI l)[i * 3 + j]? = x.cells[j]? :=
  flatten_get (s := 3) (l.map Itm.cells) (fun r hr => by obtain ⟨x, -, rfl⟩ := List.mem_map.1 hr; rfl) i j x.cells hj (by rw [List.getElem?_map, h]; rfl)

/-- Where items are read. -/
def ItemsAt (w : World) (v : Value) (l : List Itm) : Prop := ∃ ao cap, v = .slice ao l.length cap ∧ ∀ (i : Nat) (x : Itm), l[i]? = some x → ∃ g off, ao = some ⟨g, off, none⟩ ∧
  w.cell? ⟨g, off + i * 3, none⟩ = some (.string x.key) ∧ w.cell? ⟨g, off + i * 3 + 1, none⟩ = some (.string x.name) ∧ w.cell? ⟨g, off + i * 3 + 2, none⟩ = some (.int .i64 x.node)

theorem HeadRow.items {w : World} {v : Value} {l : List Itm} (h : HeadRow w 125 3 v l.length (flI l)) : ItemsAt w v l := by
  by_cases h0 : l.length = 0
  · obtain ⟨ao, cap, rfl, -⟩ := h.form
    obtain rfl := List.eq_nil_of_length_eq_zero h0
    exact ⟨ao, cap, rfl, fun i x hx => by simp at hx⟩
  · obtain ⟨g, cap, cur, rfl, -, hg, hc⟩ := h.cells (by rw [flI_len]; omega)
    refine ⟨_, _, rfl, fun i x hx => ⟨g, 0, rfl, ?_, ?_, ?_⟩⟩
    · rw [Nat.zero_add, cell_of hg]
      exact hc _ _ (flI_get l i 0 x (by decide) hx)
    · rw [Nat.zero_add, cell_of hg]
      exact hc _ _ (flI_get l i 1 x (by decide) hx)
    · rw [Nat.zero_add, cell_of hg]
      exact hc _ _ (flI_get l i 2 x (by decide) hx)

theorem ItemsAt.frame {X : List Nat} {w w' : World} {v : Value} {l : List Itm} (h : ItemsAt w v l) (hf : Frame X w w') (hX : ∀ k, v.ownBlock = some k → k ∉ X) : ItemsAt w' v l := by
  obtain ⟨ao, cap, rfl, hr⟩ := h
  refine ⟨ao, cap, rfl, fun i x hx => ?_⟩
  obtain ⟨g, off, rfl, h1, h2, h3⟩ := hr i x hx
  have := hX g rfl
  exact ⟨g, off, rfl, hf.cell h1 this, hf.cell h2 this, hf.cell h3 this⟩

def lowI (l : List Itm) (k : ByteArray) : Nat := lowOf (KI l) k
def hasI (l : List Itm) (k : ByteArray) : Bool := hasAt (KI l) k
def RisI (l : List Itm) : Prop := Rising (KI l)
theorem lowI_le (l : List Itm) (k : ByteArray) : lowI l k ≤ l.length := by
  have := low_le (KI l) k
  rwa [KI_len] at this

set_option maxHeartbeats 1000000 in
theorem closure99 (k nm : ByteArray) (nd : Int) (b : ByteArray) (w : World) : Calls Try.prog 99 #[.agg #[.string k, .string nm, .int .i64 nd], .string b] w (Ret (.int .i64 (cmpOf k b)) fun w' => Below w.heap.size w w') := by
  go_enter Try.func99, Try.ntmps99
  go_wp2_with fail
  refine (compare_any k b _).mono ?_
  rintro e w1 ⟨rfl, rfl⟩
  go_wp2_with fail
  go_ret
  exact Ret.of rfl ((Below.refl _ _).alloc (Nat.le_refl _) _)

set_option maxHeartbeats 2000000 in
set_option maxRecDepth 100000 in
theorem searchI_any (v : Value) (l : List Itm) (k : ByteArray) (w : World) (h : ItemsAt w v l) (hn : l.length ≤ 1000) (hs : RisI l) :
    Calls Try.prog 98 #[v, .string k, .func (.func 99) #[] #[]] w (Ret (.tuple #[.int .i64 (lowI l k : Int), .bool (hasI l k)]) fun w' => Below w.heap.size w w') := by
  obtain ⟨ao, cap, rfl, hr⟩ := h
  obtain ⟨n, hnn⟩ : ∃ n, n = l.length := ⟨_, rfl⟩
  rw [← hnn] at hn ⊢
  have HR := Lib.hid hr
  have HN := Lib.hid hnn
  have HS := Lib.hid hs
  clear hr hnn hs
  have n0 : (0 : Int) ≤ (n : Int) := by omega
  have n1 : (n : Int) ≤ 1000 := by omega
  go_enter Try.func98, Try.ntmps98
  go_wp2_with fail
  go_loopw [9, 10] (fun i j wr => ∃ x y : Nat, x ≤ y ∧ y ≤ n ∧ i = .int .i64 (x : Int) ∧ j = .int .i64 (y : Int) ∧ Below w.heap.size w wr ∧
    Hid (∀ (p : Nat) (c : Chg), p < x → (KI l)[p]? = some c → bl c.key.toList k.toList = true) ∧ Hid (∀ (p : Nat) (c : Chg), y ≤ p → (KI l)[p]? = some c → bl c.key.toList k.toList = false)) (fun i j _ => (intOf j).toNat - (intOf i).toNat)
  case atStart =>
    exact ⟨0, n, Nat.zero_le _, Nat.le_refl _, rfl, rfl, Below.refl _ _, fun p c hp => absurd hp (Nat.not_lt_zero _), fun p c hp hc => by
      have := (List.getElem?_eq_some_iff.1 hc).1
      rw [KI_len] at this
      have := HN.out
      omega⟩
  case round =>
    obtain ⟨x, y, hxy, hyn, rfl, rfl, hB, H1, H2⟩ := hrel
    have x0 : (0 : Int) ≤ (x : Int) := by omega
    have y0 : (0 : Int) ≤ (y : Int) := by omega
    have y1 : (y : Int) ≤ 1000 := by omega
    by_cases hlt : x < y
    · have hlt' : (x : Int) < (y : Int) := by omega
      have m1 : x ≤ (x + y) / 2 := by omega
      have m2 : (x + y) / 2 < y := by omega
      have m3 : (x + y) / 2 < n := by omega
      obtain ⟨⟨ak, av, ag⟩, ha⟩ : ∃ a, l[(x + y) / 2]? = some a := ⟨_, List.getElem?_eq_getElem (by rw [← HN.out]; exact m3)⟩
      have HA := Lib.hid (show (KI l)[(x + y) / 2]? = some (⟨ak, ⟨#[]⟩, false⟩ : Chg) by rw [KI_get, ha]; rfl)
      obtain ⟨b, off, rfl, e0, e1, e2⟩ := HR.out ((x + y) / 2) _ ha
      have up : ∀ (a : Addr) (u : Value), w.cell? a = some u → wr.cell? a = some u := fun a u hu => (hB.cell (World.block_lt_of_cell? w _ hu)).trans hu
      have c0 := up _ _ e0
      have c1 := up _ _ e1
      have c2 := up _ _ e2
      simp only at c0 c1 c2
      clear up e0 e1 e2 ha
      go_wp2_with fail
      refine (closure99 ak av ag k wr).mono ?_
      rintro e w1 ⟨rfl, hB1⟩
      have hB2 := hB.trans (hB1.mono hB.size)
      clear hB1 c0 c1 c2
      by_cases hc : cmpOf ak k < 0
      · have h1 : ∀ (p : Nat) (c : Chg), p < (x + y) / 2 + 1 → (KI l)[p]? = some c → bl c.key.toList k.toList = true := fun p c hp hcp => by
          have e0 : bl ak.toList k.toList = true := by rw [← cmpOf_lt]; exact decide_eq_true hc
          by_cases hpe : p = (x + y) / 2
          · subst hpe
            rw [HA.out] at hcp
            cases hcp
            exact e0
          · exact bl_trans _ _ _ (rising_get HS.out (by omega : p < (x + y) / 2) hcp HA.out) e0
        have H1' := Lib.hid h1
        clear h1
        go_wp2_with fail
        exact ⟨⟨(x + y) / 2 + 1, y, by omega, hyn, by go_num, rfl, hB2, H1', H2⟩, by simp [intOf]; omega⟩
      · have h2 : ∀ (p : Nat) (c : Chg), (x + y) / 2 ≤ p → (KI l)[p]? = some c → bl c.key.toList k.toList = false := fun p c hp hcp => by
          have e0 : bl ak.toList k.toList = false := by rw [← cmpOf_lt]; exact decide_eq_false hc
          by_cases hpe : p = (x + y) / 2
          · subst hpe
            rw [HA.out] at hcp
            cases hcp
            exact e0
          · rw [← Bool.not_eq_true]
            intro h3
            have := bl_trans _ _ _ (rising_get HS.out (by omega : (x + y) / 2 < p) HA.out hcp) h3
            rw [e0] at this
            cases this
        have H2' := Lib.hid h2
        clear h2
        go_wp2_with fail
        exact ⟨⟨x, (x + y) / 2, m1, by omega, rfl, by go_num, hB2, H1, H2'⟩, by simp [intOf]; omega⟩
    · obtain rfl : x = y := by omega
      have hlow : lowI l k = x := low_unique (KI l) k x (by rw [KI_len, ← HN.out]; exact hyn) H1.out (fun c hc => H2.out x c (Nat.le_refl _) hc)
      have HL := Lib.hid hlow
      clear hlow
      by_cases hxn : x < n
      · have hxn' : (x : Int) < (n : Int) := by omega
        obtain ⟨⟨ak, av, ag⟩, ha⟩ : ∃ a, l[x]? = some a := ⟨_, List.getElem?_eq_getElem (by rw [← HN.out]; exact hxn)⟩
        have HA := Lib.hid (show (KI l)[x]? = some (⟨ak, ⟨#[]⟩, false⟩ : Chg) by rw [KI_get, ha]; rfl)
        obtain ⟨b, off, rfl, e0, e1, e2⟩ := HR.out x _ ha
        have up : ∀ (a : Addr) (u : Value), w.cell? a = some u → wr.cell? a = some u := fun a u hu => (hB.cell (World.block_lt_of_cell? w _ hu)).trans hu
        have c0 := up _ _ e0
        have c1 := up _ _ e1
        have c2 := up _ _ e2
        simp only at c0 c1 c2
        clear up e0 e1 e2 ha
        go_wp2_with fail
        refine (closure99 ak av ag k wr).mono ?_
        rintro e w1 ⟨rfl, hB1⟩
        have hB2 := hB.trans (hB1.mono hB.size)
        clear hB1 c0 c1 c2
        have hh : hasI l k = decide (cmpOf ak k = 0) := by
          have h1 : lowOf (KI l) k = x := HL.out
          rw [hasI, hasAt, h1, HA.out, cmpOf_eq]
        have HH := Lib.hid hh
        clear hh
        go_wp2_with fail
        go_ret2
        exact Ret.of (by rw [HL.out, HH.out]; rfl) hB2
      · obtain rfl : x = n := by omega
        have hh : hasI l k = false := by
          have h1 : lowOf (KI l) k = x := HL.out
          rw [hasI, hasAt, h1, List.getElem?_eq_none (by rw [KI_len, ← HN.out]; exact Nat.le_refl _)]
        have HH := Lib.hid hh
        clear hh
        go_wp2_with fail
        go_ret2
        exact Ret.of (by rw [HL.out, HH.out]; rfl) hB

end Go.Proofs.Ytkapmpngglibjaa
