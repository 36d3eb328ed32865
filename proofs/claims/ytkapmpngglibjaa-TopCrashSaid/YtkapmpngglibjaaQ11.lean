/- Several texts in one: what each begins with says what it shows. Conditions: each law's own premises. -/
import Derived.Test.YtkapmpngglibjaaQ09
import Derived.Test.YtkapmpngglibjaaQ10
import Derived.Lib.Strings
import Derived.Lib.Slices
import Derived.Lib.Walk

/- strings.Compare, and the search for a key among rows that rise. Conditions: each contract's own premises. -/
namespace Go.Proofs.Ytkapmpngglibjaa
open Go Go.RowKit

def cmpOf (a b : ByteArray) : Int := Lib.compareBytes a.data.toList b.data.toList

set_option maxHeartbeats 1000000 in
set_option maxRecDepth 100000 in
theorem compareString_any (a b : ByteArray) (w : World) : Calls Try.prog 102 #[.string a, .string b] w (Ret (.int .i64 (cmpOf a b)) fun w' => w = w') := by
  go_enter Try.func102, Try.ntmps102
  go_wp2
  rw [run_callFunc_extern Try.func115 (by kernel_rfl) (by kernel_rfl) (by kernel_rfl) (e := Extern.BytealgCompare.compare) (by kernel_rfl), Lib.run_compareString]
  simp only [Result.andThen]
  rw [Oper.upon_value]
  go_wp2
  go_ret
  exact Ret.of rfl rfl

set_option maxHeartbeats 1000000 in
theorem compare_any (a b : ByteArray) (w : World) : Calls Try.prog 79 #[.string a, .string b] w (Ret (.int .i64 (cmpOf a b)) fun w' => w = w') := by
  go_enter Try.func79, Try.ntmps79
  go_wp2_with fail
  refine (compareString_any a b _).mono ?_
  rintro e w1 ⟨rfl, rfl⟩
  go_wp2_with fail
  go_ret
  exact Ret.of rfl rfl

set_option maxHeartbeats 1000000 in
theorem closure78 (k v : ByteArray) (g : Bool) (b : ByteArray) (w : World) : Calls Try.prog 78 #[.agg #[.string k, .string v, .bool g], .string b] w (Ret (.int .i64 (cmpOf k b)) fun w' => Below w.heap.size w w') := by
  go_enter Try.func78, Try.ntmps78
  go_wp2_with fail
  refine (compare_any k b _).mono ?_
  rintro e w1 ⟨rfl, rfl⟩
  go_wp2_with fail
  go_ret
  exact Ret.of rfl ((Below.refl _ _).alloc (Nat.le_refl _) _)

theorem cmpOf_lt (a b : ByteArray) : decide (cmpOf a b < 0) = bl a.toList b.toList := by rw [cmpOf, cmp_lt, ByteArray.toList_eq, ByteArray.toList_eq]
theorem cmpOf_eq (a b : ByteArray) : decide (cmpOf a b = 0) = (a.toList == b.toList) := by
  rw [cmpOf, ByteArray.toList_eq, ByteArray.toList_eq, Bool.eq_iff_iff, decide_eq_true_iff, cmp_eq0, beq_iff_eq]

/-- Rows rise by their keys. -/
def Rising (l : List Chg) : Prop := l.Pairwise fun a b => bl a.key.toList b.key.toList = true

/-- The place where a key is, or would come; and is it there? -/
def lowOf (l : List Chg) (k : ByteArray) : Nat := (l.takeWhile fun c => bl c.key.toList k.toList).length
def hasAt (l : List Chg) (k : ByteArray) : Bool := match l[lowOf l k]? with | some c => c.key.toList == k.toList | none => false

theorem low_le (l : List Chg) (k : ByteArray) : lowOf l k ≤ l.length := by
  unfold lowOf
  exact (List.takeWhile_sublist _).length_le

theorem low_unique : ∀ (l : List Chg) (k : ByteArray) (i : Nat), i ≤ l.length → (∀ (j : Nat) (c : Chg), j < i → l[j]? = some c → bl c.key.toList k.toList = true) →
    (∀ c, l[i]? = some c → bl c.key.toList k.toList = false) → lowOf l k = i
  | [], k, i, hi, _, _ => by
    obtain rfl : i = 0 := by simpa using hi
    rfl
  | c :: l, k, 0, _, _, h2 => by
    have := h2 c rfl
    simp [lowOf, this]
  | c :: l, k, i + 1, hi, h1, h2 => by
    have h0 := h1 0 c (Nat.succ_pos i) rfl
    have ih := low_unique l k i (by simpa using hi) (fun j d hj hd => h1 (j + 1) d (by omega) (by simpa using hd)) (fun d hd => h2 d (by simpa using hd))
    unfold lowOf at *
    simp [h0, ih]

theorem rising_get {l : List Chg} (h : Rising l) {i j : Nat} {a b : Chg} (hij : i < j) (ha : l[i]? = some a) (hb : l[j]? = some b) : bl a.key.toList b.key.toList = true := by
  obtain ⟨hi, rfl⟩ := List.getElem?_eq_some_iff.1 ha
  obtain ⟨hj, rfl⟩ := List.getElem?_eq_some_iff.1 hb
  exact List.pairwise_iff_getElem.1 h i j hi hj hij

set_option maxHeartbeats 2000000 in
set_option maxRecDepth 100000 in
theorem searchC_any (v : Value) (l : List Chg) (k : ByteArray) (w : World) (h : ChangesAt w v l) (hn : l.length ≤ 1000) (hs : Rising l) :
    Calls Try.prog 77 #[v, .string k, .func (.func 78) #[] #[]] w (Ret (.tuple #[.int .i64 (lowOf l k : Int), .bool (hasAt l k)]) fun w' => Below w.heap.size w w') := by
  obtain ⟨ao, cap, rfl, hm, hr⟩ := h
  simp only [List.length_map] at *
  obtain ⟨n, hnn⟩ : ∃ n, n = l.length := ⟨_, rfl⟩
  rw [← hnn] at hn ⊢
  have HR := Lib.hid hr
  have HN := Lib.hid hnn
  have HS := Lib.hid hs
  clear hr hnn hm hs
  have n0 : (0 : Int) ≤ (n : Int) := by omega
  have n1 : (n : Int) ≤ 1000 := by omega
  go_enter Try.func77, Try.ntmps77
  go_wp2_with fail
  go_loopw [9, 10] (fun i j wr => ∃ x y : Nat, x ≤ y ∧ y ≤ n ∧ i = .int .i64 (x : Int) ∧ j = .int .i64 (y : Int) ∧ Below w.heap.size w wr ∧
    Hid (∀ (p : Nat) (c : Chg), p < x → l[p]? = some c → bl c.key.toList k.toList = true) ∧ Hid (∀ (p : Nat) (c : Chg), y ≤ p → l[p]? = some c → bl c.key.toList k.toList = false)) (fun i j _ => (intOf j).toNat - (intOf i).toNat)
  case atStart =>
    exact ⟨0, n, Nat.zero_le _, Nat.le_refl _, rfl, rfl, Below.refl _ _, fun p c hp => absurd hp (Nat.not_lt_zero _), fun p c hp hc => by
      have := (List.getElem?_eq_some_iff.1 hc).1
      have := HN.out
      omega⟩
  case round =>
    obtain ⟨x, y, hxy, hyn, rfl, rfl, hB, H1, H2⟩ := hrel
    have x0 : (0 : Int) ≤ (x : Int) := by omega
    have y0 : (0 : Int) ≤ (y : Int) := by omega
    have y1 : (y : Int) ≤ 1000 := by omega
    by_cases hlt : x < y
    · have hlt' : (x : Int) < (y : Int) := by omega
      have m1 : x ≤ (x + y) / 2 := by omega
      have m2 : (x + y) / 2 < y := by omega
      have m3 : (x + y) / 2 < n := by omega
      obtain ⟨⟨ak, av, ag⟩, ha⟩ : ∃ a, l[(x + y) / 2]? = some a := ⟨_, List.getElem?_eq_getElem (by rw [← HN.out]; exact m3)⟩
      have HA := Lib.hid ha
      obtain ⟨b, off, rfl, e1⟩ := HR.out ((x + y) / 2) _ (by rw [List.getElem?_map, ha]; rfl)
      have up : ∀ (a : Addr) (u : Value), w.cell? a = some u → wr.cell? a = some u := fun a u hu => (hB.cell (World.block_lt_of_cell? w _ hu)).trans hu
      have c0 := up _ _ (e1 0 _ rfl)
      have c1 := up _ _ (e1 1 _ rfl)
      have c2 := up _ _ (e1 2 _ rfl)
      simp only [Nat.add_zero] at c0
      clear up e1 ha
      go_wp2_with fail
      refine (closure78 ak av ag k wr).mono ?_
      rintro e w1 ⟨rfl, hB1⟩
      have hB2 := hB.trans (hB1.mono hB.size)
      clear hB1 c0 c1 c2
      by_cases hc : cmpOf ak k < 0
      · have h1 : ∀ (p : Nat) (c : Chg), p < (x + y) / 2 + 1 → l[p]? = some c → bl c.key.toList k.toList = true := fun p c hp hcp => by
          have e0 : bl ak.toList k.toList = true := by rw [← cmpOf_lt]; exact decide_eq_true hc
          by_cases hpe : p = (x + y) / 2
          · subst hpe
            rw [HA.out] at hcp
            cases hcp
            exact e0
          · exact bl_trans _ _ _ (rising_get HS.out (by omega : p < (x + y) / 2) hcp HA.out) e0
        have H1' := Lib.hid h1
        clear h1
        go_wp2_with fail
        exact ⟨⟨(x + y) / 2 + 1, y, by omega, hyn, by go_num, rfl, hB2, H1', H2⟩, by simp [intOf]; omega⟩
      · have h2 : ∀ (p : Nat) (c : Chg), (x + y) / 2 ≤ p → l[p]? = some c → bl c.key.toList k.toList = false := fun p c hp hcp => by
          have e0 : bl ak.toList k.toList = false := by rw [← cmpOf_lt]; exact decide_eq_false hc
          by_cases hpe : p = (x + y) / 2
          · subst hpe
            rw [HA.out] at hcp
            cases hcp
            exact e0
          · rw [← Bool.not_eq_true]
            intro h3
            have := bl_trans _ _ _ (rising_get HS.out (by omega : (x + y) / 2 < p) HA.out hcp) h3
            rw [e0] at this
            cases this
        have H2' := Lib.hid h2
        clear h2
        go_wp2_with fail
        exact ⟨⟨x, (x + y) / 2, m1, by omega, rfl, by go_num, hB2, H1, H2'⟩, by simp [intOf]; omega⟩
    · obtain rfl : x = y := by omega
      have hlow : lowOf l k = x := low_unique l k x (by rw [← HN.out]; exact hyn) H1.out (fun c hc => H2.out x c (Nat.le_refl _) hc)
      have HL := Lib.hid hlow
      clear hlow
      by_cases hxn : x < n
      · have hxn' : (x : Int) < (n : Int) := by omega
        obtain ⟨⟨ak, av, ag⟩, ha⟩ : ∃ a, l[x]? = some a := ⟨_, List.getElem?_eq_getElem (by rw [← HN.out]; exact hxn)⟩
        have HA := Lib.hid ha
        obtain ⟨b, off, rfl, e1⟩ := HR.out x _ (by rw [List.getElem?_map, ha]; rfl)
        have up : ∀ (a : Addr) (u : Value), w.cell? a = some u → wr.cell? a = some u := fun a u hu => (hB.cell (World.block_lt_of_cell? w _ hu)).trans hu
        have c0 := up _ _ (e1 0 _ rfl)
        have c1 := up _ _ (e1 1 _ rfl)
        have c2 := up _ _ (e1 2 _ rfl)
        simp only [Nat.add_zero] at c0
        clear up e1 ha
        go_wp2_with fail
        refine (closure78 ak av ag k wr).mono ?_
        rintro e w1 ⟨rfl, hB1⟩
        have hB2 := hB.trans (hB1.mono hB.size)
        clear hB1 c0 c1 c2
        have hh : hasAt l k = decide (cmpOf ak k = 0) := by rw [hasAt, HL.out, HA.out, cmpOf_eq]
        have HH := Lib.hid hh
        clear hh
        go_wp2_with fail
        go_ret2
        exact Ret.of (by rw [HL.out, HH.out]; rfl) hB2
      · obtain rfl : x = n := by omega
        have hh : hasAt l k = false := by
          rw [hasAt, HL.out, List.getElem?_eq_none (by rw [← HN.out]; exact Nat.le_refl _)]
        have HH := Lib.hid hh
        clear hh
        go_wp2_with fail
        go_ret2
        exact Ret.of (by rw [HL.out, HH.out]; rfl) hB

end Go.Proofs.Ytkapmpngglibjaa

/- Changes to rows that rise: plain. And an owned slice of changes. Conditions: each law's own. -/
namespace Go.Proofs.Ytkapmpngglibjaa
open Go Go.RowKit

/-! ### changes in one list of cells -/

def flC (l : List Chg) : List Value := (l.map Chg.cells).flatten
theorem flC_append (a b : List Chg) : flC (a ++ b) = flC a ++ flC b := by simp [flC]
theorem flC_cons (c : Chg) (b : List Chg) : flC (c :: b) = c.cells ++ flC b := by simp [flC]
theorem flC_length (l : List Chg) : (flC l).length = l.length * 3 := by
  rw [flC, flatten_length (s := 3) _ (by intro r hr; obtain ⟨c, -, rfl⟩ := List.mem_map.1 hr; rfl), List.length_map]
theorem flC_one (l : List Chg) : ∀ u ∈ flC l, u.oneCell' = true := by
  intro u hu
  obtain ⟨r, hr, hur⟩ := List.mem_flatten.1 hu
  obtain ⟨c, -, rfl⟩ := List.mem_map.1 hr
  simp only [Chg.cells, List.mem_cons, List.not_mem_nil, or_false] at hur
  rcases hur with rfl | rfl | rfl <;> rfl

/-- An owned slice that holds these changes. -/
def OwnC (w : World) (v : Value) (l : List Chg) : Prop := w.ownsRow 0 64 3 v l.length (flC l)

theorem cells_len (l : List Chg) : ∀ r ∈ l.map Chg.cells, r.length = 3 := by
  intro r hr; obtain ⟨c, -, rfl⟩ := List.mem_map.1 hr; rfl

theorem OwnC.at {w : World} {v : Value} {l : List Chg} (h : OwnC w v l) : ChangesAt w v l :=
  SliceAt.of_owns (cells_len l) (by rw [List.length_map]; exact h)

theorem OwnC.frame {X : List Nat} {w w' : World} {v : Value} {l : List Chg} (h : OwnC w v l) (hf : Frame X w w') (hX : ∀ k, v.ownBlock = some k → k ∉ X) : OwnC w' v l := owns_frame h hf hX

/-- One cell of an owned row is written. -/
theorem owns_setK {w : World} {e : TypeId} {s g n cap : Nat} {xs : List Value} (h : w.ownsRow 0 e s (.slice (some ⟨g, 0, none⟩) n cap) n xs) (i : Nat) (u : Value) :
    (w.setCell ⟨g, i, none⟩ u).ownsRow 0 e s (.slice (some ⟨g, 0, none⟩) n cap) n (xs.set i u) := by
  rcases h.2 with ⟨h2, _⟩ | ⟨g', cap', cur, hv, hg, hh, h1, h2, h3, h4⟩
  · cases h2
  · cases hv
    refine ⟨by simpa using h.1, .inr ⟨g, cap, cur.setIfInBounds i u, rfl, hg, heap_set_same i u hh, h1, h2, by simpa using h3, ?_⟩⟩
    rw [Array.toList_setIfInBounds, ← h4, List.take_set]

theorem set_three (xa xb : List Value) (a b c a' b' c' : Value) (i : Nat) (h : xa.length = i) :
    (((xa ++ [a, b, c] ++ xb).set i a').set (i + 1) b').set (i + 2) c' = xa ++ [a', b', c'] ++ xb := by
  subst h
  simp

/-! ### one change to rows -/

def put1 (l : List Chg) (c : Chg) : List Chg :=
  if hasAt l c.key then (if c.gone then l.take (lowOf l c.key) ++ l.drop (lowOf l c.key + 1) else l.take (lowOf l c.key) ++ c :: l.drop (lowOf l c.key + 1))
  else if c.gone then l else l.take (lowOf l c.key) ++ c :: l.drop (lowOf l c.key)

def applyL (l m : List Chg) : List Chg := m.foldl put1 l

theorem low_lt {l : List Chg} {k : ByteArray} (h : hasAt l k = true) : ∃ c, l[lowOf l k]? = some c ∧ c.key.toList = k.toList := by
  unfold hasAt at h
  split at h
  · exact ⟨_, by assumption, by simpa using h⟩
  · cases h

theorem low_below : ∀ (l : List Chg) (k : ByteArray) (c : Chg), c ∈ l.take (lowOf l k) → bl c.key.toList k.toList = true
  | [], k, c, h => by simp at h
  | x :: l, k, c, h => by
    unfold lowOf at h
    by_cases hx : bl x.key.toList k.toList = true
    · simp only [List.takeWhile_cons, hx, if_true, List.length_cons, List.take_succ_cons, List.mem_cons] at h
      rcases h with rfl | h
      · exact hx
      · exact low_below l k c h
    · simp [hx] at h

theorem low_next : ∀ (l : List Chg) (k : ByteArray) (c : Chg), l[lowOf l k]? = some c → bl c.key.toList k.toList = false
  | [], k, c, h => by simp at h
  | x :: l, k, c, h => by
    unfold lowOf at h
    by_cases hx : bl x.key.toList k.toList = true
    · simp only [List.takeWhile_cons, hx, if_true, List.length_cons, List.getElem?_cons_succ] at h
      exact low_next l k c h
    · simp [hx] at h
      subst h
      simpa using hx

/-- Behind the place all is above the key, or, at the place itself, is it. -/
theorem low_above {l : List Chg} (hs : Rising l) (k : ByteArray) (n : Nat) (c : Chg) (hn : lowOf l k < n) (h : l[n]? = some c) : bl k.toList c.key.toList = true := by
  obtain ⟨d, hd⟩ : ∃ d, l[lowOf l k]? = some d := by
    have := (List.getElem?_eq_some_iff.1 h).1
    exact ⟨_, List.getElem?_eq_getElem (by omega)⟩
  have h1 := low_next l k d hd
  have h2 := rising_get hs hn hd h
  rcases bl_false h1 with h3 | h3
  · rw [← h3]; exact h2
  · exact bl_trans _ _ _ h3 h2

theorem low_at {l : List Chg} (k : ByteArray) (h : hasAt l k = false) (c : Chg) (hc : l[lowOf l k]? = some c) : bl k.toList c.key.toList = true := by
  have h1 := low_next l k c hc
  rcases bl_false h1 with h3 | h3
  · rw [hasAt, hc] at h
    simp [h3] at h
  · exact h3

theorem put1_length (l : List Chg) (c : Chg) : (put1 l c).length ≤ l.length + 1 := by
  have := low_le l c.key
  unfold put1
  split
  · rename_i h
    obtain ⟨d, hd, -⟩ := low_lt h
    have := (List.getElem?_eq_some_iff.1 hd).1
    split <;> simp only [List.length_append, List.length_cons, List.length_take, List.length_drop] <;> omega
  · split
    · omega
    · simp only [List.length_append, List.length_cons, List.length_take, List.length_drop]; omega

theorem rising_append {a b : List Chg} (ha : Rising a) (hb : Rising b) (h : ∀ x ∈ a, ∀ y ∈ b, bl x.key.toList y.key.toList = true) : Rising (a ++ b) := List.pairwise_append.2 ⟨ha, hb, h⟩

theorem put1_rising {l : List Chg} (hs : Rising l) (c : Chg) : Rising (put1 l c) := by
  have hT : Rising (l.take (lowOf l c.key)) := List.Pairwise.sublist (List.take_sublist _ _) hs
  have hD : ∀ n, Rising (l.drop n) := fun n => List.Pairwise.sublist (List.drop_sublist _ _) hs
  have hlo := low_below l c.key
  have hup : ∀ y ∈ l.drop (lowOf l c.key + 1), bl c.key.toList y.key.toList = true := fun y hy => by
    obtain ⟨i, hi⟩ := List.getElem?_of_mem hy
    rw [List.getElem?_drop] at hi
    exact low_above hs c.key _ y (by omega) hi
  have hcons : ∀ n, (∀ y ∈ l.drop n, bl c.key.toList y.key.toList = true) → Rising (c :: l.drop n) := fun n h => List.pairwise_cons.2 ⟨h, hD n⟩
  have hmid : ∀ n, (∀ y ∈ l.drop n, bl c.key.toList y.key.toList = true) → Rising (l.take (lowOf l c.key) ++ c :: l.drop n) := fun n h =>
    rising_append hT (hcons n h) fun x hx y hy => by
      rcases List.mem_cons.1 hy with rfl | hy
      · exact hlo x hx
      · exact bl_trans _ _ _ (hlo x hx) (h y hy)
  unfold put1
  split
  · split
    · exact rising_append hT (hD _) fun x hx y hy => bl_trans _ _ _ (hlo x hx) (hup y hy)
    · exact hmid _ hup
  · rename_i h
    split
    · exact hs
    · refine hmid _ fun y hy => ?_
      obtain ⟨i, hi⟩ := List.getElem?_of_mem hy
      rw [List.getElem?_drop] at hi
      cases i with
      | zero => exact low_at c.key (by simpa using h) y (by simpa using hi)
      | succ i => exact low_above hs c.key _ y (by omega) hi

theorem applyL_rising : ∀ (m l : List Chg), Rising l → Rising (applyL l m)
  | [], _, h => h
  | c :: m, l, h => applyL_rising m (put1 l c) (put1_rising h c)
theorem applyL_length : ∀ (m l : List Chg), (applyL l m).length ≤ l.length + m.length
  | [], l => by simp [applyL]
  | c :: m, l => by
    have := applyL_length m (put1 l c)
    have := put1_length l c
    simp only [applyL, List.foldl_cons, List.length_cons] at *
    omega

end Go.Proofs.Ytkapmpngglibjaa

/- The reference's way to apply changes, and that it is the program's: plain. No condition beyond each law's own. -/
namespace Go.Proofs.Ytkapmpngglibjaa
open Go Go.RowKit

/-! ### the reference's way: plain -/

def step1 (c : Chg) (s : List Chg × Bool) (x : Chg) : List Chg × Bool :=
  let s1 := if !s.2 && (bl c.key.toList x.key.toList || c.key.toList == x.key.toList) then (s.1 ++ [c], true) else s
  if x.key.toList == c.key.toList then s1 else (s1.1 ++ [x], s1.2)
def ref1 (l : List Chg) (c : Chg) : List Chg := let s := l.foldl (step1 c) ([], c.gone); if s.2 then s.1 else s.1 ++ [c]
def refL (l m : List Chg) : List Chg := m.foldl ref1 l

/-- Rows below the key are taken as they are. -/
theorem fold_below (c : Chg) : ∀ (l n : List Chg) (b : Bool), (∀ x ∈ l, bl x.key.toList c.key.toList = true) → l.foldl (step1 c) (n, b) = (n ++ l, b)
  | [], n, b, _ => by simp
  | x :: l, n, b, h => by
    have h1 := h x (by simp)
    have h2 := bl_asymm h1
    have h3 : (x.key.toList == c.key.toList) = false := by simpa using bl_ne h1
    have h4 : (c.key.toList == x.key.toList) = false := by simpa using (bl_ne h1).symm
    rw [List.foldl_cons, show step1 c (n, b) x = (n ++ [x], b) by simp [step1, h2, h3, h4], fold_below c l _ b (fun y hy => h y (by simp [hy]))]
    simp

/-- Behind it, once it is laid, too. -/
theorem fold_above (c : Chg) : ∀ (l n : List Chg), (∀ x ∈ l, bl c.key.toList x.key.toList = true) → l.foldl (step1 c) (n, true) = (n ++ l, true)
  | [], n, _ => by simp
  | x :: l, n, h => by
    have h1 := h x (by simp)
    have h3 : (x.key.toList == c.key.toList) = false := by simpa using (bl_ne h1).symm
    rw [List.foldl_cons, show step1 c (n, true) x = (n ++ [x], true) by simp [step1, h3], fold_above c l _ (fun y hy => h y (by simp [hy]))]
    simp

theorem ref1_put1 {l : List Chg} (hs : Rising l) (c : Chg) : ref1 l c = put1 l c := by
  have hlo := low_below l c.key
  have hup : ∀ y ∈ l.drop (lowOf l c.key + 1), bl c.key.toList y.key.toList = true := fun y hy => by
    obtain ⟨i, hi⟩ := List.getElem?_of_mem hy
    rw [List.getElem?_drop] at hi
    exact low_above hs c.key _ y (by omega) hi
  have hfold : l.foldl (step1 c) ([], c.gone) = (l.drop (lowOf l c.key)).foldl (step1 c) (l.take (lowOf l c.key), c.gone) := by
    conv => lhs; rw [← List.take_append_drop (lowOf l c.key) l]
    rw [List.foldl_append, fold_below c _ _ _ hlo, List.nil_append]
  unfold ref1
  rw [hfold]
  cases hn : l[lowOf l c.key]? with
  | none =>
    have hd : l.drop (lowOf l c.key) = [] := by
      rw [List.drop_eq_nil_iff]
      exact List.getElem?_eq_none_iff.1 hn
    have hh : hasAt l c.key = false := by rw [hasAt, hn]
    have htk : l.take (lowOf l c.key) = l := by
      rw [List.take_of_length_le (List.getElem?_eq_none_iff.1 hn)]
    rw [put1, hh, hd, htk]
    cases hg : c.gone <;> simp
  | some d =>
    have hlt := (List.getElem?_eq_some_iff.1 hn).1
    have hdd : l.drop (lowOf l c.key) = d :: l.drop (lowOf l c.key + 1) := by
      obtain ⟨h1, h2⟩ := List.getElem?_eq_some_iff.1 hn
      rw [List.drop_eq_getElem_cons h1, h2]
    have h1 := low_next l c.key d hn
    rw [hdd, List.foldl_cons]
    cases hh : hasAt l c.key with
    | true =>
      have he : d.key.toList = c.key.toList := by
        rw [hasAt, hn] at hh
        simpa using hh
      have hb : bl c.key.toList c.key.toList = false := bl_irrefl _
      rw [put1, hh]
      cases hg : c.gone
      · rw [show step1 c (l.take (lowOf l c.key), false) d = (l.take (lowOf l c.key) ++ [c], true) by simp [step1, he], fold_above c _ _ hup]
        simp
      · rw [show step1 c (l.take (lowOf l c.key), true) d = (l.take (lowOf l c.key), true) by simp [step1, he], fold_above c _ _ hup]
        simp
    | false =>
      have ha := low_at c.key hh d hn
      have hne : (d.key.toList == c.key.toList) = false := by simpa using (bl_ne ha).symm
      rw [put1, hh]
      cases hg : c.gone
      · rw [show step1 c (l.take (lowOf l c.key), false) d = (l.take (lowOf l c.key) ++ [c] ++ [d], true) by simp [step1, ha, hne], fold_above c _ _ hup, hdd]
        simp
      · rw [show step1 c (l.take (lowOf l c.key), true) d = (l.take (lowOf l c.key) ++ [d], true) by simp [step1, hne], fold_above c _ _ hup]
        simp only [Bool.false_eq_true, if_false, if_true]
        conv => rhs; rw [← List.take_append_drop (lowOf l c.key) l]
        rw [hdd]
        simp

theorem refL_applyL : ∀ (m l : List Chg), Rising l → refL l m = applyL l m
  | [], _, _ => rfl
  | c :: m, l, h => by
    have h1 := ref1_put1 h c
    have ih := refL_applyL m (put1 l c) (put1_rising h c)
    simp only [refL, applyL, List.foldl_cons] at *
    rw [h1, ih]

theorem owns_base {w : World} {b b' : Nat} {e : TypeId} {s : Nat} {v : Value} {n : Nat} {xs : List Value} (h : w.ownsRow b e s v n xs) (hb : b' ≤ b) : w.ownsRow b' e s v n xs :=
  ⟨h.1, h.2.imp id (fun ⟨g, cap, cur, a, hg, c⟩ => ⟨g, cap, cur, a, Nat.le_trans hb hg, c⟩)⟩

theorem step1_length (c : Chg) (s : List Chg × Bool) (x : Chg) : (step1 c s x).1.length ≤ s.1.length + 2 ∧ ((step1 c s x).2 = false → (step1 c s x).1.length ≤ s.1.length + 1) := by
  unfold step1
  cases s.2 <;> cases (bl c.key.toList x.key.toList || c.key.toList == x.key.toList) <;> cases (x.key.toList == c.key.toList) <;> simp

end Go.Proofs.Ytkapmpngglibjaa
