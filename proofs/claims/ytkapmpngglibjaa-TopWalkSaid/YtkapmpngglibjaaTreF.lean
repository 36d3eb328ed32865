/- A full node, split. Conditions: the contract's own premises. -/
import Derived.Test.YtkapmpngglibjaaTreE
import Derived.Test.YtkapmpngglibjaaFork
namespace Go.Proofs.Ytkapmpngglibjaa
open Go Go.RowKit

/-- A head that is cut: no room is left. -/
theorem HeadRow.cut {w : World} {e : TypeId} {s n m : Nat} {v : Value} {xa xb : List Value} (h : HeadRow w e s v n (xa ++ xb)) (hm : 0 < m) (hs : 0 < s) (ha : xa.length = m * s) :
    ∃ g cap, v = .slice (some ⟨g, 0, none⟩) n cap ∧ n ≤ cap ∧ HeadRow w e s (.slice (some ⟨g, 0, none⟩) m m) m xa := by
  have hp : 0 < (xa ++ xb).length := by
    rw [List.length_append, ha]
    have := Nat.mul_pos hm hs
    omega
  obtain ⟨g, cap, cur, rfl, hc, hg, hcur⟩ := h.cells hp
  have e1 : cur.toList.take xa.length = xa := by
    apply List.ext_getElem?
    intro j
    by_cases hj : j < xa.length
    · rw [List.getElem?_take_of_lt hj, Array.getElem?_toList]
      have h1 := List.getElem?_eq_getElem hj
      rw [h1]
      exact hcur j _ (by rw [List.getElem?_append_left hj]; exact h1)
    · rw [List.getElem?_eq_none (by rw [List.length_take]; omega), List.getElem?_eq_none (by omega)]
  refine ⟨g, cap, rfl, hc, .inr ⟨g, cur.toList.drop xa.length, rfl, ?_, ha, hm⟩⟩
  rw [hg]
  congr 2
  apply Array.ext'
  show cur.toList = _
  conv => lhs; rw [← List.take_append_drop xa.length cur.toList, e1]

theorem ownsForm {w : World} {base : Nat} {e : TypeId} {size : Nat} {v : Value} {n : Nat} {xs : List Value} (h : w.ownsRow base e size v n xs) : ∃ ao cap, v = .slice ao n cap := by
  rcases h.2 with ⟨h1, h2⟩ | ⟨g, cap, cur, h1, -⟩
  · exact ⟨none, 0, by rw [h1, h2]⟩
  · exact ⟨_, cap, h1⟩

theorem weave_split (L1 L3 : List Itm) (b : Itm) : ∀ (A B : List (List Itm)) (l : List Itm), A.length ≤ l.length → weave (A ++ (L1 ++ b :: L3) :: B) l = weave (A ++ L1 :: L3 :: B) (l.take A.length ++ b :: l.drop A.length)
  | [], B, l, _ => by
    cases l with
    | nil => simp [weave]
    | cons x xs => simp [weave]
  | k :: A, B, [], h => by simp at h
  | k :: A, B, x :: xs, h => by
    have ih := weave_split L1 L3 b A B xs (by simpa using h)
    simp only [List.cons_append, weave, List.length_cons, List.take_succ_cons, List.drop_succ_cons, ih]

/-- The blocks of a store, told one by one. -/
theorem count_own (a : Nat) (o : Option Nat) : o.toList.count a = if o = some a then 1 else 0 := by
  cases o with
  | none => simp
  | some b =>
    by_cases h : b = a
    · subst h; simp
    · simp [h]

def SplitRes (h nb : Nat) (w : World) (l : List Itm) (b : Itm) (i : Nat) (ks1 ks2 : List Kid) (xb : Nat) (L : List Itm) (X : List Nat) (w' : World) : Prop :=
  ∃ (lv dv : Value) (yb : Nat) (L1 L3 : List Itm) (X' X1 X3 : List Nat), NodeEx (fun p q r => NodeAt (h + 1) w' p q r) w' nb lv dv (l.take i ++ b :: l.drop i) (ks1 ++ (xb, L1, X1) :: (yb, L3, X3) :: ks2) L X' ∧ CntAt w' xb 1 ∧ CntAt w' yb 1 ∧ Frame X w w' ∧ Fresh w X X'

theorem len_two {α : Type} : ∀ (l : List α), l.length = 2 → ∃ p q, l = [p, q]
  | [p, q], _ => ⟨p, q, rfl⟩
  | [], h => by cases h
  | [_], h => by cases h
  | _ :: _ :: _ :: _, h => by simp at h

def fpOf (ks : List Kid) : List Nat := (ks.map (·.2.2)).flatten
theorem fpOf_append (a b : List Kid) : fpOf (a ++ b) = fpOf a ++ fpOf b := by simp [fpOf]
theorem fpOf_cons (k : Kid) (b : List Kid) : fpOf (k :: b) = k.2.2 ++ fpOf b := by simp [fpOf]

/-- Where a split stands, before the node itself is changed. -/
structure Mid (h : Nat) (w w4 : World) (nb xb yb gx cx : Nat) (lv dv dv0 dvx v1 v2 : Value) (a c : Itm) (k1 k2 : List Kid) : Prop where
  n : w4.heap[nb]? = some (.cells #[lv, dv] 119 (0, 0))
  x : w4.heap[xb]? = some (.cells #[.slice (some ⟨gx, 0, none⟩) 3 cx, dvx] 119 (0, 0))
  y : w4.heap[yb]? = some (.cells #[v1, v2] 119 (0, 0))
  f : Frame [xb] w w4
  r1 : HeadRow w4 125 3 v1 1 (flI [c])
  r2 : HeadRow w4 115 1 v2 k2.length (k2.map fun k => ptrV k.1)
  rx : HeadRow w4 115 1 dvx k1.length (k1.map fun k => ptrV k.1)
  cut : HeadRow w4 125 3 (.slice (some ⟨gx, 0, none⟩) 1 1) 1 (flI [a])
  yn : w.heap.size ≤ yb
  n1 : ∀ k, v1.ownBlock = some k → w.heap.size ≤ k
  n2 : ∀ k, v2.ownBlock = some k → w.heap.size ≤ k
  dx : dvx.ownBlock = dv0.ownBlock

theorem split_fin {h nb i : Nat} {w w4 w9 : World} {lv dv : Value} {l : List Itm} {ks1 ks2 : List Kid} {L : List Itm} {X : List Nat} {xb : Nat} {Lx : List Itm} {Xx : List Nat} {gx cx : Nat} {dv0 : Value} {a b c : Itm} {k1 k2 : List Kid}
    (hn : NodeEx (fun p q r => NodeAt (h + 1) w p q r) w nb lv dv l (ks1 ++ (xb, Lx, Xx) :: ks2) L X) (hi : ks1.length = i) (hl : l.length ≤ 2)
    (hx : NodeEx (fun p q r => NodeAt h w p q r) w xb (.slice (some ⟨gx, 0, none⟩) 3 cx) dv0 [a, b, c] (k1 ++ k2) Lx Xx) (hk : (k1 = [] ∧ k2 = []) ∨ (k1.length = 2 ∧ k2.length = 2))
    {yb : Nat} {dvx v1 v2 : Value} (hm : Mid h w w4 nb xb yb gx cx lv dv dv0 dvx v1 v2 a c k1 k2) {lv' dv' : Value}
    (hf : Frame (nb :: xb :: (lv.ownBlock.toList ++ dv.ownBlock.toList)) w4 w9) (h9n : w9.heap[nb]? = some (.cells #[lv', dv'] 119 (0, 0))) (h9x : w9.heap[xb]? = some (.cells #[.slice (some ⟨gx, 0, none⟩) 1 1, dvx] 119 (0, 0)))
    (hlr : w9.ownsRow 0 125 3 lv' (l.length + 1) (flI (l.take i ++ b :: l.drop i))) (hdr : w9.ownsRow 0 115 1 dv' ((ks1 ++ (xb, Lx, Xx) :: ks2).length + 1) ((ks1.map fun k => ptrV k.1) ++ ptrV xb :: ptrV yb :: (ks2.map fun k => ptrV k.1)))
    (hlo : ∀ k, lv'.ownBlock = some k → lv.ownBlock = some k ∨ w4.heap.size ≤ k) (hdo : ∀ k, dv'.ownBlock = some k → dv.ownBlock = some k ∨ w4.heap.size ≤ k) : SplitRes h nb w l b i ks1 ks2 xb L X w9 := by
  have hshape : (ks1 ++ (xb, Lx, Xx) :: ks2).length = l.length + 1 ∧ L = weave ((ks1 ++ (xb, Lx, Xx) :: ks2).map (·.2.1)) l := by
    rcases hn.shape with ⟨h0, -⟩ | h1
    · simp at h0
    · exact h1
  obtain ⟨hlen, hL⟩ := hshape
  have hi4 : i ≤ l.length := by
    rw [List.length_append, List.length_cons] at hlen
    omega
  have hX := hn.fp
  have hXx := hx.fp
  have hnd := List.nodup_iff_count.1 hn.nd
  have hXlt : ∀ k ∈ X, k < w.heap.size := NodeAt.lt (h + 2) nb L X ⟨lv, dv, l, _, hn⟩
  have hs4 := hm.f.size
  have hs9 := hf.size
  have fpX : X = nb :: (lv.ownBlock.toList ++ (dv.ownBlock.toList ++ (fpOf ks1 ++ (Xx ++ fpOf ks2)))) := by
    rw [hX]
    show nb :: (_ ++ (_ ++ fpOf _)) = _
    rw [fpOf_append, fpOf_cons]
  have fpXx : Xx = xb :: ([gx] ++ (dv0.ownBlock.toList ++ (fpOf k1 ++ fpOf k2))) := by
    rw [hXx]
    show xb :: (_ ++ (_ ++ fpOf _)) = _
    rw [fpOf_append]
    rfl
  -- what is not touched
  have hall : Frame (nb :: xb :: (lv.ownBlock.toList ++ dv.ownBlock.toList)) w w9 := (hm.f.mono (by simp)).trans hf
  have hcX : ∀ j, X.count j = (if nb = j then 1 else 0) + (lv.ownBlock.toList.count j + (dv.ownBlock.toList.count j + ((fpOf ks1).count j + (((if xb = j then 1 else 0) + ((if gx = j then 1 else 0) + (dv0.ownBlock.toList.count j + ((fpOf k1).count j + (fpOf k2).count j)))) + (fpOf ks2).count j)))) := fun j => by
    rw [fpX, fpXx]
    simp only [List.count_cons, List.count_append, List.count_nil, beq_iff_eq]
    omega
  have hkid : ∀ j, ((fpOf ks1).count j = 1 ∨ (fpOf k1).count j = 1 ∨ (fpOf k2).count j = 1 ∨ (fpOf ks2).count j = 1 ∨ gx = j ∨ dv0.ownBlock.toList.count j = 1) → j ∉ nb :: xb :: (lv.ownBlock.toList ++ dv.ownBlock.toList) := fun j hj hmem => by
    have h1 := hnd j
    rw [hcX j] at h1
    simp only [List.mem_cons, List.mem_append] at hmem
    have h2 : (if nb = j then 1 else 0) + ((if xb = j then 1 else 0) + (lv.ownBlock.toList.count j + dv.ownBlock.toList.count j)) ≥ 1 := by
      rcases hmem with rfl | rfl | hmem | hmem
      · rw [if_pos rfl]; omega
      · rw [if_pos rfl]; omega
      · have := List.count_pos_iff.2 hmem; omega
      · have := List.count_pos_iff.2 hmem; omega
    have h3 : gx = j → (if gx = j then 1 else 0) = 1 := fun e => if_pos e
    rcases hj with hj | hj | hj | hj | hj | hj
    · omega
    · omega
    · omega
    · omega
    · have := h3 hj; omega
    · omega
  have hin : ∀ (ks : List Kid) (k : Kid), k ∈ ks → ∀ j ∈ k.2.2, (∀ j, (fpOf ks).count j ≤ 1) → (fpOf ks).count j = 1 := fun ks k hk j hj hc => by
    have : j ∈ fpOf ks := List.mem_flatten.2 ⟨k.2.2, List.mem_map.2 ⟨k, hk, rfl⟩, hj⟩
    have := List.count_pos_iff.2 this
    have := hc j
    omega
  have hc1 : ∀ j, (fpOf ks1).count j ≤ 1 := fun j => by have := hnd j; rw [hcX j] at this; omega
  have hc2 : ∀ j, (fpOf ks2).count j ≤ 1 := fun j => by have := hnd j; rw [hcX j] at this; omega
  have hc3 : ∀ j, (fpOf k1).count j ≤ 1 := fun j => by have := hnd j; rw [hcX j] at this; omega
  have hc4 : ∀ j, (fpOf k2).count j ≤ 1 := fun j => by have := hnd j; rw [hcX j] at this; omega
  -- the blocks of what is new
  have hty1 : ∀ k, v1.ownBlock = some k → k < w4.heap.size ∧ k ≠ yb ∧ v2.ownBlock ≠ some k := fun k hk => by
    obtain ⟨cur, hc⟩ := hm.r1.lt hk
    refine ⟨lt_of_heap hc, fun e => ?_, fun e => ?_⟩
    · rw [e, hm.y] at hc
      simp at hc
    · obtain ⟨cur', hc'⟩ := hm.r2.lt e
      rw [hc] at hc'
      simp at hc'
  have hty2 : ∀ k, v2.ownBlock = some k → k < w4.heap.size ∧ k ≠ yb := fun k hk => by
    obtain ⟨cur, hc⟩ := hm.r2.lt hk
    refine ⟨lt_of_heap hc, fun e => ?_⟩
    rw [e, hm.y] at hc
    simp at hc
  have hyl : yb < w4.heap.size := lt_of_heap hm.y
  have hlvd : ∀ k, lv'.ownBlock = some k → dv'.ownBlock ≠ some k := fun k hk e => by
    obtain ⟨cur, hc⟩ := owns_lt hlr hk
    obtain ⟨cur', hc'⟩ := owns_lt hdr e
    rw [hc] at hc'
    simp at hc'
  have hnew : ∀ k, (w.heap.size ≤ k ∧ k < w4.heap.size) → k ∉ nb :: xb :: (lv.ownBlock.toList ++ dv.ownBlock.toList) := fun k hk hmem => by
    have : k ∈ X := by
      rw [fpX, fpXx]
      simp only [List.mem_cons, List.mem_append] at hmem ⊢
      rcases hmem with h | h | h | h
      · exact .inl h
      · exact .inr (.inr (.inr (.inr (.inl (.inl h)))))
      · exact .inr (.inl h)
      · exact .inr (.inr (.inl h))
    have := hXlt k this
    omega
  -- the node that was full
  have hX1 : NodeEx (fun p q r => NodeAt h w9 p q r) w9 xb (.slice (some ⟨gx, 0, none⟩) 1 1) dvx [a] k1 (if k1 = [] then [a] else weave (k1.map (·.2.1)) [a]) (xb :: ([gx] ++ (dvx.ownBlock.toList ++ fpOf k1))) := by
    refine ⟨h9x, hm.cut.frame hf (fun k hk => ?_), hm.rx.frame hf (fun k hk => ?_), by show 1 ≤ 3; decide, ?_, fun k hk => ?_, rfl, ?_⟩
    · cases hk
      exact hkid _ (.inr (.inr (.inr (.inr (.inl rfl)))))
    · refine hkid _ (.inr (.inr (.inr (.inr (.inr ?_)))))
      rw [← hm.dx, hk]
      simp
    · rcases hk with ⟨rfl, -⟩ | ⟨h1, -⟩
      · exact .inl ⟨rfl, rfl⟩
      · refine .inr ⟨h1, ?_⟩
        rw [if_neg]
        rintro rfl
        cases h1
    · exact NodeAt.frame hall h _ _ _ (hx.kids k (List.mem_append_left _ hk)) (fun j hj => hkid j (.inr (.inl (hin k1 k hk j hj hc3))))
    · refine List.nodup_iff_count.2 fun j => ?_
      have := hnd j
      rw [hcX j] at this
      rw [hm.dx]
      simp only [List.count_cons, List.count_append, List.count_nil, beq_iff_eq]
      omega
  have hX3 : NodeEx (fun p q r => NodeAt h w9 p q r) w9 yb v1 v2 [c] k2 (if k2 = [] then [c] else weave (k2.map (·.2.1)) [c]) (yb :: (v1.ownBlock.toList ++ (v2.ownBlock.toList ++ fpOf k2))) := by
    refine ⟨hf.heap hm.y (hnew _ ⟨hm.yn, hyl⟩), hm.r1.frame hf (fun k hk => hnew k ⟨hm.n1 k hk, (hty1 k hk).1⟩), hm.r2.frame hf (fun k hk => hnew k ⟨hm.n2 k hk, (hty2 k hk).1⟩), by show 1 ≤ 3; decide, ?_, fun k hk => ?_, rfl, ?_⟩
    · rcases hk with ⟨-, rfl⟩ | ⟨-, h1⟩
      · exact .inl ⟨rfl, rfl⟩
      · refine .inr ⟨h1, ?_⟩
        rw [if_neg]
        rintro rfl
        cases h1
    · exact NodeAt.frame hall h _ _ _ (hx.kids k (List.mem_append_right _ hk)) (fun j hj => hkid j (.inr (.inr (.inl (hin k2 k hk j hj hc4)))))
    · refine List.nodup_iff_count.2 fun j => ?_
      have hcj := hnd j
      rw [hcX j] at hcj
      have h0 : w.heap.size ≤ j → (fpOf k2).count j = 0 := fun hj => by
        refine List.count_eq_zero.2 fun hm' => ?_
        have : j ∈ X := by
          rw [fpX, fpXx]
          simp [hm']
        have := hXlt j this
        omega
      have t1 := hty1 j
      have t2 := hty2 j
      have m1 := hm.n1 j
      have m2 := hm.n2 j
      have my := hm.yn
      simp only [List.count_cons, List.count_append, beq_iff_eq, count_own]
      by_cases q1 : v1.ownBlock = some j
      · have r1 := t1 q1
        have r2 := h0 (m1 q1)
        rw [if_pos q1, if_neg r1.2.2, if_neg (fun e => r1.2.1 e.symm), r2]
        omega
      · rw [if_neg q1]
        by_cases q2 : v2.ownBlock = some j
        · have r1 := t2 q2
          have r2 := h0 (m2 q2)
          rw [if_pos q2, if_neg (fun e => r1.2 e.symm), r2]
          omega
        · rw [if_neg q2]
          by_cases q3 : yb = j
          · have r2 := h0 (by omega)
            rw [if_pos q3, r2]
            omega
          · rw [if_neg q3]
            omega
  refine ⟨lv', dv', yb, _, _, nb :: (lv'.ownBlock.toList ++ (dv'.ownBlock.toList ++ fpOf (ks1 ++ (xb, (if k1 = [] then [a] else weave (k1.map (·.2.1)) [a]), xb :: ([gx] ++ (dvx.ownBlock.toList ++ fpOf k1))) :: (yb, (if k2 = [] then [c] else weave (k2.map (·.2.1)) [c]), yb :: (v1.ownBlock.toList ++ (v2.ownBlock.toList ++ fpOf k2))) :: ks2))), _, _,
    ⟨h9n, .inl ?_, .inl ?_, ?_, .inr ⟨?_, ?_⟩, fun k hk' => ?_, rfl, ?_⟩, hX1.cnt, hX3.cnt, hall.mono ?_, fun k hk' => ?_⟩
  · rw [show (l.take i ++ b :: l.drop i).length = l.length + 1 by rw [List.length_append, List.length_cons, List.length_take, List.length_drop]; omega]
    exact hlr
  · rw [show (ks1 ++ (xb, (if k1 = [] then [a] else weave (k1.map (·.2.1)) [a]), xb :: ([gx] ++ (dvx.ownBlock.toList ++ fpOf k1))) :: (yb, (if k2 = [] then [c] else weave (k2.map (·.2.1)) [c]), yb :: (v1.ownBlock.toList ++ (v2.ownBlock.toList ++ fpOf k2))) :: ks2).length = (ks1 ++ (xb, Lx, Xx) :: ks2).length + 1 by simp only [List.length_append, List.length_cons]; omega]
    simpa using hdr
  · rw [List.length_append, List.length_cons, List.length_take, List.length_drop]
    omega
  · simp only [List.length_append, List.length_cons, List.length_take, List.length_drop] at hlen ⊢
    omega
  · rw [hL]
    have hLx : Lx = (if k1 = [] then [a] else weave (k1.map (·.2.1)) [a]) ++ b :: (if k2 = [] then [c] else weave (k2.map (·.2.1)) [c]) := by
      rcases hk with ⟨rfl, rfl⟩ | ⟨e1, e2⟩
      · rcases hx.shape with ⟨-, h1⟩ | ⟨h1, -⟩
        · rw [h1]
          simp
        · simp at h1
      · obtain ⟨p, q, rfl⟩ := len_two k1 e1
        obtain ⟨r, s, rfl⟩ := len_two k2 e2
        rcases hx.shape with ⟨h1, -⟩ | ⟨-, h1⟩
        · simp at h1
        · rw [h1]
          simp [weave]
    simp only [List.map_append, List.map_cons]
    rw [hLx, weave_split _ _ _ (ks1.map (·.2.1)) (ks2.map (·.2.1)) l (by rw [List.length_map]; omega), List.length_map, hi]
  · simp only [List.mem_append, List.mem_cons] at hk'
    rcases hk' with hk' | rfl | rfl | hk'
    · exact NodeAt.frame hall (h + 1) _ _ _ (hn.kids k (by simp [hk'])) (fun j hj => hkid j (.inl (hin ks1 k hk' j hj hc1)))
    · exact ⟨_, _, _, _, hX1⟩
    · exact ⟨_, _, _, _, hX3⟩
    · exact NodeAt.frame hall (h + 1) _ _ _ (hn.kids k (by simp [hk'])) (fun j hj => hkid j (.inr (.inr (.inr (.inl (hin ks2 k hk' j hj hc2))))))
  · refine List.nodup_iff_count.2 fun j => ?_
    have hcj := hnd j
    rw [hcX j] at hcj
    have h0 : w.heap.size ≤ j → X.count j = 0 := fun hj => List.count_eq_zero.2 fun hm' => by
      have := hXlt j hm'
      omega
    rw [hcX j] at h0
    have hX3j := List.nodup_iff_count.1 hX3.nd j
    simp only [List.count_cons, List.count_append, beq_iff_eq, count_own, fpOf_append, fpOf_cons, List.count_nil, hm.dx] at hcj h0 hX3j ⊢
    have t1 := hty1 j
    have t2 := hty2 j
    have m1 := hm.n1 j
    have m2 := hm.n2 j
    have my := hm.yn
    have ol := hlo j
    have od := hdo j
    have ld := hlvd j
    by_cases hj : w.heap.size ≤ j
    · have h0' := h0 hj
      have z1 : (if lv.ownBlock = some j then 1 else 0) = 0 := by omega
      have z2 : (if dv.ownBlock = some j then 1 else 0) = 0 := by omega
      have z1' : lv.ownBlock ≠ some j := fun e => by rw [if_pos e] at z1; cases z1
      have z2' : dv.ownBlock ≠ some j := fun e => by rw [if_pos e] at z2; cases z2
      by_cases q1 : lv'.ownBlock = some j
      · have r1 : w4.heap.size ≤ j := (ol q1).resolve_left z1'
        have r2 := ld q1
        have r3 : v1.ownBlock ≠ some j := fun e => by have := (t1 e).1; omega
        have r4 : v2.ownBlock ≠ some j := fun e => by have := (t2 e).1; omega
        have r5 : yb ≠ j := by omega
        rw [if_pos q1, if_neg r2, if_neg r3, if_neg r4, if_neg r5]
        omega
      · rw [if_neg q1]
        by_cases q2 : dv'.ownBlock = some j
        · have r1 : w4.heap.size ≤ j := (od q2).resolve_left z2'
          have r3 : v1.ownBlock ≠ some j := fun e => by have := (t1 e).1; omega
          have r4 : v2.ownBlock ≠ some j := fun e => by have := (t2 e).1; omega
          have r5 : yb ≠ j := by omega
          rw [if_pos q2, if_neg r3, if_neg r4, if_neg r5]
          omega
        · rw [if_neg q2]
          omega
    · have r3 : v1.ownBlock ≠ some j := fun e => hj (m1 e)
      have r4 : v2.ownBlock ≠ some j := fun e => hj (m2 e)
      have r5 : yb ≠ j := by omega
      rw [if_neg r3, if_neg r4, if_neg r5]
      have e1 : (if lv'.ownBlock = some j then 1 else 0) ≤ (if lv.ownBlock = some j then 1 else 0) := by
        by_cases q1 : lv'.ownBlock = some j
        · rw [if_pos q1, if_pos ((ol q1).resolve_right (by omega))]
          exact Nat.le_refl _
        · rw [if_neg q1]
          exact Nat.zero_le _
      have e2 : (if dv'.ownBlock = some j then 1 else 0) ≤ (if dv.ownBlock = some j then 1 else 0) := by
        by_cases q1 : dv'.ownBlock = some j
        · rw [if_pos q1, if_pos ((od q1).resolve_right (by omega))]
          exact Nat.le_refl _
        · rw [if_neg q1]
          exact Nat.zero_le _
      omega
  · intro k hk'
    rw [fpX, fpXx]
    simp only [List.mem_cons, List.mem_append] at hk' ⊢
    rcases hk' with h | h | h | h
    · exact .inl h
    · exact .inr (.inr (.inr (.inr (.inl (.inl h)))))
    · exact .inr (.inl h)
    · exact .inr (.inr (.inl h))
  · have hold : ∀ k, k ∈ fpOf ks1 ∨ k ∈ fpOf k1 ∨ k ∈ fpOf k2 ∨ k ∈ fpOf ks2 ∨ k = nb ∨ k = xb ∨ k = gx ∨ lv.ownBlock = some k ∨ dv.ownBlock = some k ∨ dv0.ownBlock = some k → k ∈ X := fun k hk => by
      rw [fpX, fpXx]
      simp only [List.mem_cons, List.mem_append, Option.mem_toList, List.not_mem_nil, or_false]
      rcases hk with h | h | h | h | h | h | h | h | h | h <;> simp [h]
    simp only [List.mem_cons, List.mem_append, Option.mem_toList, fpOf_append, fpOf_cons, List.not_mem_nil, or_false, hm.dx] at hk'
    rcases hk' with h | h | h | h | (h | h | h | h) | (h | h | h | h) | h
    · exact .inl (hold k (by simp [h]))
    · exact (hlo k h).imp (fun e => hold k (by simp [e])) (fun e => by omega)
    · exact (hdo k h).imp (fun e => hold k (by simp [e])) (fun e => by omega)
    · exact .inl (hold k (by simp [h]))
    · exact .inl (hold k (by simp [h]))
    · exact .inl (hold k (by simp [h]))
    · exact .inl (hold k (by simp [h]))
    · exact .inl (hold k (by simp [h]))
    · right
      have := hm.yn
      omega
    · exact .inr (hm.n1 k h)
    · exact .inr (hm.n2 k h)
    · exact .inl (hold k (by simp [h]))
    · exact .inl (hold k (by simp [h]))

theorem len_four {α : Type} : ∀ (l : List α), l.length = 4 → ∃ p q r s, l = [p, q, r, s]
  | [p, q, r, s], _ => ⟨p, q, r, s, rfl⟩
  | [], h => by cases h
  | [_], h => by cases h
  | [_, _], h => by cases h
  | [_, _, _], h => by cases h
  | _ :: _ :: _ :: _ :: _ :: _, h => by simp at h

set_option maxHeartbeats 8000000 in
set_option maxRecDepth 100000 in
theorem split_any (h nb i : Nat) (w : World) (lv dv : Value) (l : List Itm) (ks1 ks2 : List Kid) (L : List Itm) (X : List Nat) (xb : Nat) (Lx : List Itm) (Xx : List Nat) (lvx dvx : Value) (a b c : Itm) (kx : List Kid)
    (hn : NodeEx (fun p q r => NodeAt (h + 1) w p q r) w nb lv dv l (ks1 ++ (xb, Lx, Xx) :: ks2) L X) (hi : ks1.length = i) (hl : l.length ≤ 2)
    (hx : NodeEx (fun p q r => NodeAt h w p q r) w xb lvx dvx [a, b, c] kx Lx Xx) :
    Calls Try.prog 69 #[ptrV nb, .int .i64 (i : Int)] w (Ret (.tuple #[]) (SplitRes h nb w l b i ks1 ks2 xb L X)) := by
  have HN := Lib.hid hn
  have HX := Lib.hid hx
  obtain ⟨nk, hnk⟩ : ∃ nk, nk = (ks1 ++ (xb, Lx, Xx) :: ks2).length := ⟨_, rfl⟩
  have hik : i < nk := by rw [hnk, List.length_append, List.length_cons]; omega
  have hnk4 : nk ≤ 3 ∧ nk = l.length + 1 := by
    rcases hn.shape with ⟨h0, -⟩ | ⟨h1, -⟩
    · have := congrArg List.length h0
      rw [← hnk] at this
      simp at this
      omega
    · rw [← hnk] at h1
      omega
  obtain ⟨gd, cd, curd, rfl, hcd, hgd, hcurd⟩ := hn.dr.cells (by rw [List.length_map, ← hnk]; omega)
  rw [← hnk] at hcd
  have hpx : curd[i]? = some (ptrV xb) := hcurd i _ (by rw [List.getElem?_map, List.getElem?_append_right (by omega), hi, Nat.sub_self]; rfl)
  obtain ⟨gx, cx, rfl, hcx, hcut⟩ := (show HeadRow w 125 3 lvx 3 (flI [a] ++ flI [b, c]) from by rw [← flI_append]; exact hx.lr).cut (m := 1) (by decide) (by decide) (by rw [flI_len]; rfl)
  obtain ⟨aox, cdx, rfl, hcdx⟩ := hx.dr.form
  obtain ⟨ao', cap', he, hit⟩ := hx.lr.items
  cases he
  obtain ⟨g1, o1, e1, b0, b1, b2⟩ := hit 1 b rfl
  obtain ⟨g2, o2, e2, c0, c1, c2⟩ := hit 2 c rfl
  cases e1
  cases e2
  have hsl : SliceAt w (.slice (some ⟨gx, 6, none⟩) 1 (cx - 2)) [c.cells] 3 := ⟨_, _, rfl, by unfold maxLen; simp, fun j r hj => by
    match j, hj with
    | 0, hj =>
      cases hj
      refine ⟨_, _, rfl, fun q u hq => ?_⟩
      match q, hq with
      | 0, hq => cases hq; exact c0
      | 1, hq => cases hq; exact c1
      | 2, hq => cases hq; exact c2⟩
  have hcl := cloneI_any _ _ w hsl (by intro r hr; rw [List.mem_singleton.1 hr]; rfl) (by intro u hu; exact flI_one [c] u hu) (by simp)
  have HCL := Lib.hid hcl
  have n1 := cell_of hn.b 1
  have x0 := cell_of hx.b 0
  have d1 := cell_of hgd i
  rw [hpx] at d1
  unfold ptrV at d1
  simp only [List.getElem?_toArray, List.getElem?_cons_zero, List.getElem?_cons_succ] at n1 x0
  have HH := Lib.hid (fun (_ : Unit) => And.intro hnk (And.intro hi (And.intro hl hnk4)))
  have HCUT := Lib.hid hcut
  have HB := Lib.hid (And.intro b0 (And.intro b1 b2))
  have HGD := Lib.hid hgd
  have i0 : (0 : Int) ≤ (i : Int) := by omega
  have i1 : (i : Int) < (nk : Int) := by omega
  have i2 : (nk : Int) ≤ 3 := by omega
  rw [← hnk] at n1 HN
  have cx3 : (3 : Int) ≤ (cx : Int) := by omega
  clear hn hx hnk hi hl hnk4 hgd hcurd hpx hcut hit b0 b1 b2 c0 c1 c2 hsl hcl hcd
  unfold ptrV
  go_enter Try.func69, Try.ntmps69
  go_wp2_with fail
  refine HCL.out.mono ?_
  clear HCL
  rintro _ w1 ⟨v1, rfl, ho1, hB1⟩
  obtain ⟨ao1, cap1, rfl⟩ := ownsForm ho1
  have HY := Lib.hid (heap_alloc_new w1 (.cells #[.slice ao1 1 cap1, .slice none 0 0] 119))
  have HF2 := Lib.hid (show Frame [] w (w1.alloc (.cells #[.slice ao1 1 cap1, .slice none 0 0] 119)) from (Frame.of_below [] hB1).alloc _)
  have HV1 := Lib.hid (show (w1.alloc (.cells #[.slice ao1 1 cap1, .slice none 0 0] 119)).ownsRow w.heap.size 125 3 (.slice ao1 1 cap1) 1 (flI [c]) ∧ (∀ k, (Value.slice ao1 1 cap1).ownBlock = some k → w.heap.size ≤ k ∧ k < w1.heap.size) ∧ w.heap.size ≤ w1.heap.size ∧ (w1.alloc (.cells #[.slice ao1 1 cap1, .slice none 0 0] 119)).heap.size = w1.heap.size + 1 from
    ⟨World.ownsRow.alloc (w := w1) ho1 _, fun k hk => World.ownsRow.lt ho1 k hk, hB1.size, size_alloc _ _⟩)
  clear ho1 hB1
  have hxb2 := HF2.out.heap HX.out.b (by simp)
  have hlf := leaf_any xb _ aox kx.length cdx _ hxb2
  have HLF := Lib.hid hlf
  clear hlf hxb2
  go_wp2_with fail
  generalize w1.alloc (.cells #[.slice ao1 1 cap1, .slice none 0 0] 119) = w2 at *
  refine HLF.out.mono ?_
  clear HLF
  rintro _ w2' ⟨rfl, rfl⟩
  generalize w1.heap.size = yb at *
  have h4 : kx = [] ∨ kx.length = 4 := HX.out.shape.imp (fun h => h.1) (fun h => h.1)
  rcases h4 with rfl | h4
  · have HM := Lib.hid (show Mid h w w2 nb xb yb gx cx lv (.slice (some ⟨gd, 0, none⟩) nk cd) (.slice aox 0 cdx) (.slice aox 0 cdx) (.slice ao1 1 cap1) (.slice none 0 0) a c [] [] from
      ⟨HF2.out.heap HN.out.b (by simp), HF2.out.heap HX.out.b (by simp), HY.out, HF2.out.mono (by simp), .inl (owns_zero HV1.out.1), .inl (World.ownsRow_nil _ _ _ _), HX.out.dr.frame HF2.out (by simp), HCUT.out.frame HF2.out (by simp), HV1.out.2.2.1, fun k hk => (HV1.out.2.1 k hk).1, (fun k hk => by cases hk), rfl⟩)
    simp only [List.length_nil, decide_true]
    clear HY HV1 HF2
    go_wp2_with fail
    have HI := Lib.hid (fun (_ : Unit) => (HH.out ()).2.1)
    have hgb : w2.heap[nb]? = some (.cells #[lv, .slice (some ⟨gd, 0, none⟩) nk cd] 119 (0, 0)) := HM.out.n
    have hnd : ∀ j, X.count j ≤ 1 := List.nodup_iff_count.1 HN.out.nd
    have hgxl : lv.ownBlock ≠ some gx ∧ gx ≠ nb ∧ gx ≠ xb ∧ lv.ownBlock ≠ some nb ∧ lv.ownBlock ≠ some xb ∧ nb ≠ xb ∧ gd ≠ nb ∧ gd ≠ xb := by
      have t1 : ∀ {k : Nat} {cur : Array Value} {c2 : Array Value}, w.heap[k]? = some (.cells cur 125 (0, 0)) → w.heap[k]? = some (.cells c2 119 (0, 0)) → False := fun h1 h2 => by rw [h1] at h2; simp at h2
      have t2 : ∀ {k : Nat} {cur : Array Value} {c2 : Array Value}, w.heap[k]? = some (.cells cur 115 (0, 0)) → w.heap[k]? = some (.cells c2 119 (0, 0)) → False := fun h1 h2 => by rw [h1] at h2; simp at h2
      have hXx := HX.out.own
      have hcg : X.count gx = X.count gx := rfl
      obtain ⟨curx, hcx'⟩ := HX.out.lr.lt (k := gx) rfl
      refine ⟨fun e => ?_, fun e => t1 hcx' (by rw [e]; exact HN.out.b), fun e => t1 hcx' (by rw [e]; exact HX.out.b), fun e => ?_, fun e => ?_, fun e => ?_, fun e => t2 HGD.out (by rw [e]; exact HN.out.b), fun e => t2 HGD.out (by rw [e]; exact HX.out.b)⟩
      · have h1 := hnd gx
        rw [HN.out.fp] at h1
        have h2 : gx ∈ (List.map (fun k : Kid => k.2.2) (ks1 ++ (xb, Lx, Xx) :: ks2)).flatten := List.mem_flatten.2 ⟨Xx, by simp, hXx.2.1 gx rfl⟩
        have h3 := List.count_pos_iff.2 h2
        simp only [List.count_cons, List.count_append, count_own, e, if_pos] at h1
        omega
      · obtain ⟨cur, hc⟩ := HN.out.lr.lt e
        exact t1 hc HN.out.b
      · obtain ⟨cur, hc⟩ := HN.out.lr.lt e
        exact t1 hc HX.out.b
      · have h1 := hnd nb
        rw [HN.out.fp] at h1
        have h2 : nb ∈ (List.map (fun k : Kid => k.2.2) (ks1 ++ (xb, Lx, Xx) :: ks2)).flatten := List.mem_flatten.2 ⟨Xx, by simp, by rw [e]; exact hXx.1⟩
        have h3 := List.count_pos_iff.2 h2
        simp only [List.count_cons, List.count_append, beq_self_eq_true, if_pos] at h1
        omega
    have HG := Lib.hid hgxl
    have hwb : ∀ (j : Nat) (u : Value), w.cell? ⟨gx, j, none⟩ = some u → w2.cell? ⟨gx, j, none⟩ = some u := fun j u hu => HM.out.f.cell hu (by simp; exact HG.out.2.2.1)
    have hT0 : w2.heap[nb]? = some (.cells #[lv, .slice (some ⟨gd, 0, none⟩) nk cd] 119 (0, 0)) ∧ w2.heap[xb]? = some (.cells #[.slice (some ⟨gx, 0, none⟩) 3 cx, .slice aox 0 cdx] 119 (0, 0)) ∧ w2.cell? ⟨gx, 3, none⟩ = some (.string b.key) ∧ w2.cell? ⟨gx, 4, none⟩ = some (.string b.name) ∧ w2.cell? ⟨gx, 5, none⟩ = some (.int .i64 b.node) :=
      ⟨HM.out.n, HM.out.x, hwb _ _ HB.out.1, hwb _ _ HB.out.2.1, hwb _ _ HB.out.2.2⟩
    have HT0 := Lib.hid hT0
    clear hgb hnd hgxl hwb hT0
    refine wp_region_plan (fun w5 => w5.heap[nb]? = some (.cells #[lv, .slice (some ⟨gd, 0, none⟩) nk cd] 119 (0, 0)) ∧ w5.heap[xb]? = some (.cells #[.slice (some ⟨gx, 0, none⟩) 3 cx, .slice aox 0 cdx] 119 (0, 0)) ∧ w5.cell? ⟨gx, 3, none⟩ = some (.string b.key) ∧ w5.cell? ⟨gx, 4, none⟩ = some (.string b.name) ∧ w5.cell? ⟨gx, 5, none⟩ = some (.int .i64 b.node)) 77
      [([0, 1, 5, 6, 2, 7, 3, 8, 4, 9, 10, 11], [12], true), ([], [13], true), ([14, 15], [16], false)] (by kernel_rfl) (by kernel_rfl) ?_
    apply wpStages_keep
    case hT => exact HT0.out
    case hn => exact Nat.le_refl _
    case hq =>
      rintro w5 ⟨t0, t1, t2, t3, t4⟩
      have c0 := cell_of t0 0
      have c1 := cell_of t1 0
      simp only [List.getElem?_toArray, List.getElem?_cons_zero] at c0 c1
      clear t0 t1
      simp only [picked, List.filterMap_cons, List.filterMap_nil, List.getElem?_cons_zero, List.getElem?_cons_succ]
      repeat still_step
      exact wpStill_nil rfl
    simp only [picked, List.filterMap_cons, List.filterMap_nil, List.getElem?_cons_zero, List.getElem?_cons_succ]
    go_wp2_with fail
    have hFA : Frame [] w2 ((w2.alloc (.cells #[.string b.key, .string b.name, .int .i64 b.node] 125)).drew) := ((Frame.refl [] w2).alloc _).drew
    have hgbA := heap_alloc_new w2 (.cells #[.string b.key, .string b.name, .int .i64 b.node] 125)
    have HFA := Lib.hid hFA
    have HGB := Lib.hid (show ((w2.alloc (.cells #[.string b.key, .string b.name, .int .i64 b.node] 125)).drew).heap[w2.heap.size]? = some (.cells b.cells.toArray 125 (0, 0)) from hgbA)
    have hTA := HT0.out
    have HTA := Lib.hid (show ((w2.alloc (.cells #[.string b.key, .string b.name, .int .i64 b.node] 125)).drew).heap[nb]? = some (.cells #[lv, .slice (some ⟨gd, 0, none⟩) nk cd] 119 (0, 0)) ∧ ((w2.alloc (.cells #[.string b.key, .string b.name, .int .i64 b.node] 125)).drew).heap[xb]? = some (.cells #[.slice (some ⟨gx, 0, none⟩) 3 cx, .slice aox 0 cdx] 119 (0, 0)) ∧
        ((w2.alloc (.cells #[.string b.key, .string b.name, .int .i64 b.node] 125)).drew).cell? ⟨gx, 3, none⟩ = some (.string b.key) ∧ ((w2.alloc (.cells #[.string b.key, .string b.name, .int .i64 b.node] 125)).drew).cell? ⟨gx, 4, none⟩ = some (.string b.name) ∧ ((w2.alloc (.cells #[.string b.key, .string b.name, .int .i64 b.node] 125)).drew).cell? ⟨gx, 5, none⟩ = some (.int .i64 b.node) from
      ⟨hFA.heap hTA.1 (by simp), hFA.heap hTA.2.1 (by simp), hFA.cell hTA.2.2.1 (by simp), hFA.cell hTA.2.2.2.1 (by simp), hFA.cell hTA.2.2.2.2 (by simp)⟩)
    have HAL := Lib.hid (show w2.heap.size < ((w2.alloc (.cells #[.string b.key, .string b.name, .int .i64 b.node] 125)).drew).heap.size from lt_of_heap HGB.out)
    clear hFA hgbA hTA
    generalize (w2.alloc (.cells #[.string b.key, .string b.name, .int .i64 b.node] 125)).drew = wA at *
    refine OnlyNormal.mk ⟨HTA.out, ?_⟩
    apply wpStages_seqkeep
    simp only [picked, List.filterMap_cons, List.filterMap_nil, List.getElem?_cons_zero, List.getElem?_cons_succ]
    have hWs : w.heap.size ≤ w2.heap.size := HM.out.f.size
    have hil : i ≤ l.length := by
      have := HH.out ()
      omega
    have hrow : HeadRow wA 125 3 lv l.length (flI (l.take i) ++ flI (l.drop i)) := by
      rw [← flI_append, List.take_append_drop]
      exact (HN.out.lr.frame HM.out.f (fun k hk hm => HG.out.2.2.2.2.1 (by rw [hk, List.mem_singleton.1 hm]))).frame HFA.out (by simp)
    have hins := insertI_head lv (flI (l.take i)) (flI (l.drop i)) b.cells i l.length w2.heap.size wA (by rw [flI_len, List.length_take, Nat.min_eq_left hil]) hrow hil HGB.out rfl (fun u hu => flI_one [b] u (by simpa [flI] using hu)) (flI_one _) (fun e => by obtain ⟨cur, hc⟩ := HN.out.lr.lt e; have := lt_of_heap hc; omega) (by have := HH.out (); omega)
    have HINS := Lib.hid hins
    clear hWs hil hrow hins
    go_wp2_with fail
    refine HINS.out.mono ?_
    clear HINS
    rintro _ w6 ⟨v6, rfl, ho6, hF6, hn6⟩
    obtain ⟨ao6, cap6, rfl⟩ := ownsForm ho6
    have hnl : nb ∉ lv.ownBlock.toList := fun hm => HG.out.2.2.2.1 (by simpa using hm)
    have hxl : xb ∉ lv.ownBlock.toList := fun hm => HG.out.2.2.2.2.1 (by simpa using hm)
    have hgl : gx ∉ lv.ownBlock.toList := fun hm => HG.out.1 (by simpa using hm)
    have HT6 := Lib.hid (show w6.heap[nb]? = some (.cells #[lv, .slice (some ⟨gd, 0, none⟩) nk cd] 119 (0, 0)) ∧ w6.heap[xb]? = some (.cells #[.slice (some ⟨gx, 0, none⟩) 3 cx, .slice aox 0 cdx] 119 (0, 0)) ∧ w6.cell? ⟨gx, 3, none⟩ = some (.string b.key) ∧ w6.cell? ⟨gx, 4, none⟩ = some (.string b.name) ∧ w6.cell? ⟨gx, 5, none⟩ = some (.int .i64 b.node) from
      ⟨hF6.heap HTA.out.1 hnl, hF6.heap HTA.out.2.1 hxl, hF6.cell HTA.out.2.2.1 hgl, hF6.cell HTA.out.2.2.2.1 hgl, hF6.cell HTA.out.2.2.2.2 hgl⟩)
    have H6 := Lib.hid (And.intro ho6 (And.intro hF6 hn6))
    clear ho6 hF6 hn6 hnl hxl hgl
    go_wp2_with fail
    refine OnlyNormal.mk ⟨HT6.out, ?_⟩
    apply wpStages_last
    case hT => exact HT6.out
    case hn => exact Nat.le_refl _
    case hq =>
      rintro w5 -
      simp only [picked, List.filterMap_cons, List.filterMap_nil, List.getElem?_cons_zero, List.getElem?_cons_succ]
      repeat still_step
      exact wpStill_nil rfl
    simp only [picked, List.filterMap_cons, List.filterMap_nil, List.getElem?_cons_zero, List.getElem?_cons_succ]
    have z6 := frozen_of HT6.out.1
    have y6 := cell_of HT6.out.1 0
    go_wp2_with fail
    clear z6 y6
    refine OnlyNormal.mk ?_
    have HF7 := Lib.hid (show Frame [nb] w6 (w6.setCell ⟨nb, 0, none⟩ (.slice ao6 (l.length + 1) cap6)) from (Frame.refl [nb] w6).set (p := ⟨nb, 0, none⟩) (.inl (by simp)) _)
    have HN7 := Lib.hid (heap_set_same 0 (.slice ao6 (l.length + 1) cap6) HT6.out.1)
    have HX7 := Lib.hid (HF7.out.heap HT6.out.2.1 (fun hm => HG.out.2.2.2.2.2.1 (List.mem_singleton.1 hm).symm))
    have hgd7 : (w6.setCell ⟨nb, 0, none⟩ (.slice ao6 (l.length + 1) cap6)).heap.size = w6.heap.size := size_set _ _ _
    generalize w6.setCell ⟨nb, 0, none⟩ (.slice ao6 (l.length + 1) cap6) = w7 at *
    have c1 := cell_of HN7.out 1
    have HS7 := Lib.hid hgd7
    clear hgd7
    have hw1 : IntKind.i64.wrap ((i : Int) + 1) = (i : Int) + 1 := IntWalk.i64_in _ (by omega)
    have HGB7 := Lib.hid (heap_alloc_new w7 (.cells #[.pointer (some ⟨yb, 0, none⟩)] 115))
    have HFB := Lib.hid (show Frame [] w7 (w7.alloc (.cells #[.pointer (some ⟨yb, 0, none⟩)] 115)) from (Frame.refl [] w7).alloc _)
    have hgl6 : gd ∉ lv.ownBlock.toList := fun hm => by
      obtain ⟨cur, hc⟩ := HN.out.lr.lt (by simpa using hm)
      rw [HGD.out] at hc
      simp at hc
    have hrow : HeadRow (w7.alloc (.cells #[.pointer (some ⟨yb, 0, none⟩)] 115)) 115 1 (.slice (some ⟨gd, 0, none⟩) nk cd) nk (((ks1.map fun k => ptrV k.1) ++ [ptrV xb]) ++ (ks2.map fun k => ptrV k.1)) := by
      have h1 := HN.out.dr
      rw [← (HH.out ()).1] at h1
      have e : (List.map (fun k : Kid => ptrV k.1) (ks1 ++ (xb, Lx, Xx) :: ks2)) = ((ks1.map fun k => ptrV k.1) ++ [ptrV xb]) ++ (ks2.map fun k => ptrV k.1) := by simp
      rw [e] at h1
      have own : ∀ {Z : List Nat}, gd ∉ Z → ∀ k, (Value.slice (some ⟨gd, 0, none⟩) nk cd).ownBlock = some k → k ∉ Z := fun hz k hk => by
        cases hk
        exact hz
      exact ((((h1.frame HM.out.f (own (by simp; exact HG.out.2.2.2.2.2.2.2))).frame HFA.out (own (by simp))).frame H6.out.2.1 (own hgl6)).frame HF7.out (own (by simp; exact HG.out.2.2.2.2.2.2.1))).frame HFB.out (own (by simp))
    have hlt7 : gd < w7.heap.size := by
      have h1 := lt_of_heap HGD.out
      have h2 := HM.out.f.size
      have h3 := HFA.out.size
      have h4 := H6.out.2.1.size
      have h5 := HF7.out.size
      omega
    have hins := insertN_head (.slice (some ⟨gd, 0, none⟩) nk cd) ((ks1.map fun k => ptrV k.1) ++ [ptrV xb]) (ks2.map fun k => ptrV k.1) [ptrV yb] (i + 1) nk w7.heap.size (w7.alloc (.cells #[.pointer (some ⟨yb, 0, none⟩)] 115)) (by have := (HH.out ()).2.1; simp; omega) hrow (by omega) HGB7.out rfl (fun u hu => by rw [List.mem_singleton.1 hu]; rfl)
      (fun u hu => by obtain ⟨k, -, rfl⟩ := List.mem_map.1 hu; rfl) (fun e => by have e' : gd = w7.heap.size := by simpa [Value.ownBlock] using e
                                                                                 omega) (by have := HH.out (); omega)
    rw [show ((i + 1 : Nat) : Int) = (i : Int) + 1 by omega] at hins
    have HINS := Lib.hid hins
    clear hrow hins hgl6 hlt7
    go_wp2_with fail
    generalize w7.alloc (.cells #[.pointer (some ⟨yb, 0, none⟩)] 115) = wB at *
    refine HINS.out.mono ?_
    clear HINS
    rintro _ w8 ⟨v8, rfl, ho8, hF8, hn8⟩
    obtain ⟨ao8, cap8, rfl⟩ := ownsForm ho8
    have hF8' : Frame [gd] wB w8 := hF8
    have HN8 := Lib.hid (hF8'.heap (HFB.out.heap HN7.out (by simp)) (fun hm => HG.out.2.2.2.2.2.2.1 (List.mem_singleton.1 hm).symm))
    have HX8 := Lib.hid (hF8'.heap (HFB.out.heap HX7.out (by simp)) (fun hm => HG.out.2.2.2.2.2.2.2 (List.mem_singleton.1 hm).symm))
    have H8 := Lib.hid (And.intro ho8 (And.intro hF8' hn8))
    clear ho8 hF8 hF8' hn8 c1 hw1
    have z8 := frozen_of HN8.out
    have y8 := cell_of HN8.out 1
    have HF9 := Lib.hid (show Frame [nb] w8 (w8.setCell ⟨nb, 1, none⟩ (.slice ao8 (nk + 1) cap8)) from (Frame.refl [nb] w8).set (p := ⟨nb, 1, none⟩) (.inl (by simp)) _)
    have HN9 := Lib.hid (heap_set_same 1 (.slice ao8 (nk + 1) cap8) HN8.out)
    have HX9 := Lib.hid (HF9.out.heap HX8.out (fun hm => HG.out.2.2.2.2.2.1 (List.mem_singleton.1 hm).symm))
    have x9 := cell_of HX9.out 0
    have zx9 := frozen_of HX9.out
    simp only [List.getElem?_toArray, List.getElem?_cons_zero] at x9
    go_wp2_with fail
    go_end0
    refine Ret.of rfl (split_fin (lv' := .slice ao6 (l.length + 1) cap6) (dv' := .slice ao8 (nk + 1) cap8) (k1 := []) (k2 := []) HN.out (HH.out ()).2.1 (HH.out ()).2.2.1 HX.out (.inl ⟨rfl, rfl⟩) HM.out ?_ ?_ ?_ ?_ ?_ ?_ ?_)
    · have m1 : ∀ k ∈ [nb], k ∈ nb :: xb :: (lv.ownBlock.toList ++ [gd]) := fun k hk => by simp [List.mem_singleton.1 hk]
      have m2 : ∀ k ∈ lv.ownBlock.toList, k ∈ nb :: xb :: (lv.ownBlock.toList ++ [gd]) := fun k hk => by
        simp only [List.mem_cons, List.mem_append]
        exact .inr (.inr (.inl hk))
      have m3 : ∀ k ∈ [gd], k ∈ nb :: xb :: (lv.ownBlock.toList ++ [gd]) := fun k hk => by simp [List.mem_singleton.1 hk]
      have m0 : ∀ k ∈ ([] : List Nat), k ∈ nb :: xb :: (lv.ownBlock.toList ++ [gd]) := fun k hk => by cases hk
      exact ((((((HFA.out.mono m0).trans (H6.out.2.1.mono m2)).trans (HF7.out.mono m1)).trans (HFB.out.mono m0)).trans (H8.out.2.1.mono m3)).trans (HF9.out.mono m1)).set (p := ⟨xb, 0, none⟩) (.inl (by simp)) _
    · exact (heap_set_other _ _ _ (show nb ≠ xb from HG.out.2.2.2.2.2.1)).trans HN9.out
    · exact heap_set_same 0 _ HX9.out
    · have e : flI (l.take i ++ b :: l.drop i) = flI (l.take i) ++ b.cells ++ flI (l.drop i) := by rw [flI_append, flI_cons, List.append_assoc]
      rw [e]
      have hk6 : ∀ k, (Value.slice ao6 (l.length + 1) cap6).ownBlock = some k → k ≠ nb ∧ k ≠ xb ∧ k ≠ gd := fun k hk => by
        obtain ⟨cur, hc⟩ := owns_lt H6.out.1 hk
        refine ⟨fun q => ?_, fun q => ?_, fun q => ?_⟩
        · rw [q, HT6.out.1] at hc
          simp at hc
        · rw [q, HT6.out.2.1] at hc
          simp at hc
        · subst q
          rcases H6.out.2.2 k hk with g | g
          · obtain ⟨cur', hc'⟩ := HN.out.lr.lt g
            rw [HGD.out] at hc'
            simp at hc'
          · have h1 := lt_of_heap HGD.out
            have h2 := HM.out.f.size
            have h3 := HFA.out.size
            omega
      have hX : Frame [xb] (w8.setCell ⟨nb, 1, none⟩ (.slice ao8 (nk + 1) cap8)) ((w8.setCell ⟨nb, 1, none⟩ (.slice ao8 (nk + 1) cap8)).setCell ⟨xb, 0, none⟩ (.slice (some ⟨gx, 0, none⟩) 1 1)) := (Frame.refl [xb] _).set (p := ⟨xb, 0, none⟩) (.inl (by simp)) _
      have h1 := owns_frame H6.out.1 HF7.out (fun k hk hm => (hk6 k hk).1 (List.mem_singleton.1 hm))
      have h2 := owns_frame h1 HFB.out (fun k hk hm => by cases hm)
      have h3 := owns_frame h2 H8.out.2.1 (fun k hk hm => (hk6 k hk).2.2 (List.mem_singleton.1 hm))
      have h4 := owns_frame h3 HF9.out (fun k hk hm => (hk6 k hk).1 (List.mem_singleton.1 hm))
      exact owns_frame h4 hX (fun k hk hm => (hk6 k hk).2.1 (List.mem_singleton.1 hm))
    · have hk8 : ∀ k, (Value.slice ao8 (nk + 1) cap8).ownBlock = some k → k ≠ nb ∧ k ≠ xb := fun k hk => by
        obtain ⟨cur, hc⟩ := owns_lt H8.out.1 hk
        refine ⟨fun q => ?_, fun q => ?_⟩
        · rw [q, HN8.out] at hc
          simp at hc
        · rw [q, HX8.out] at hc
          simp at hc
      have hX : Frame [xb] (w8.setCell ⟨nb, 1, none⟩ (.slice ao8 (nk + 1) cap8)) ((w8.setCell ⟨nb, 1, none⟩ (.slice ao8 (nk + 1) cap8)).setCell ⟨xb, 0, none⟩ (.slice (some ⟨gx, 0, none⟩) 1 1)) := (Frame.refl [xb] _).set (p := ⟨xb, 0, none⟩) (.inl (by simp)) _
      have h1 := owns_frame H8.out.1 HF9.out (fun k hk hm => (hk8 k hk).1 (List.mem_singleton.1 hm))
      have h2 := owns_frame h1 hX (fun k hk hm => (hk8 k hk).2 (List.mem_singleton.1 hm))
      rw [← (HH.out ()).1]
      have e : (ks1.map fun k => ptrV k.1) ++ ptrV xb :: ptrV yb :: (ks2.map fun k => ptrV k.1) = ((ks1.map fun k => ptrV k.1) ++ [ptrV xb]) ++ [ptrV yb] ++ (ks2.map fun k => ptrV k.1) := by simp
      rw [e]
      exact h2
    · exact fun k hk => (H6.out.2.2 k hk).imp id (fun g => by have := HFA.out.size; omega)
    · exact fun k hk => (H8.out.2.2 k hk).imp id (fun g => by
        have h3 := HFA.out.size
        have h4 := H6.out.2.1.size
        have h5 := HF7.out.size
        have h6 := HFB.out.size
        omega)
  · obtain ⟨p, q, r, s, rfl⟩ := len_four kx h4
    obtain ⟨gdx, cdx', he, hc4, hcut2⟩ := (show HeadRow w 115 1 (.slice aox 4 cdx) 4 ([ptrV p.1, ptrV q.1] ++ [ptrV r.1, ptrV s.1]) from HX.out.dr).cut (m := 2) (by decide) (by decide) rfl
    cases he
    obtain ⟨g', c', cur', he', -, hgx', hcur'⟩ := HX.out.dr.cells (by simp)
    cases he'
    have hsl : SliceAt w2 (.slice (some ⟨gdx, 2, none⟩) 2 (cdx - 2)) [[ptrV r.1], [ptrV s.1]] 1 := ⟨_, _, rfl, by unfold maxLen; simp, fun j x hj => by
      match j, hj with
      | 0, hj =>
        cases hj
        refine ⟨_, _, rfl, fun t u hu => ?_⟩
        match t, hu with
        | 0, hu => cases hu; exact HF2.out.cell ((cell_of hgx' 2).trans (hcur' 2 _ rfl)) (by simp)
      | 1, hj =>
        cases hj
        refine ⟨_, _, rfl, fun t u hu => ?_⟩
        match t, hu with
        | 0, hu => cases hu; exact HF2.out.cell ((cell_of hgx' 3).trans (hcur' 3 _ rfl)) (by simp)⟩
    have hcl := cloneN_any _ _ w2 hsl (by intro x hx; simp only [List.mem_cons, List.not_mem_nil, or_false] at hx; rcases hx with rfl | rfl <;> rfl) (by intro u hu; simp at hu; rcases hu with rfl | rfl <;> rfl) (by simp)
    have HCL := Lib.hid hcl
    have HCUT2 := Lib.hid hcut2
    have hx2 := HF2.out.heap HX.out.b (by simp)
    have x1 := cell_of hx2 1
    simp only [List.getElem?_toArray, List.getElem?_cons_succ, List.getElem?_cons_zero, List.length_cons, List.length_nil, Nat.zero_add, Nat.reduceAdd] at x1
    have HX2 := Lib.hid hx2
    have cd4 : (4 : Int) ≤ (cdx : Int) := by omega
    have hgdx : gdx ≠ xb := fun e => by
      rw [e] at hgx'
      rw [HX.out.b] at hgx'
      simp at hgx'
    have HGDX := Lib.hid (fun (_ : Unit) => hgdx)
    simp only [List.length_cons, List.length_nil, Nat.zero_add, Nat.reduceAdd, Nat.reduceEqDiff, decide_false] at *
    clear hsl hcl hcut2 hx2 hc4 hgx' hcur' hgdx
    go_wp2_with fail
    refine HCL.out.mono ?_
    clear HCL x1
    rintro _ w3 ⟨v3, rfl, ho3, hB3⟩
    obtain ⟨ao3, cap3, rfl⟩ := ownsForm ho3
    have hf3 : Frame [] w2 w3 := Frame.of_below [] hB3
    have HY3 := Lib.hid (hf3.heap HY.out (by simp))
    have hv3 : (Value.slice ao3 2 cap3).ownBlock ≠ some yb := fun e => by
      have h1 := (World.ownsRow.lt ho3 yb e).1
      have h2 := lt_of_heap HY.out
      omega
    have hyx : yb ≠ xb := fun e => by
      have h1 := HV1.out.2.2.1
      have h2 := lt_of_heap HX.out.b
      omega
    have z3 := frozen_of HY3.out
    have y3 := cell_of HY3.out 1
    have HF4 := Lib.hid (show Frame [yb] w3 (w3.setCell ⟨yb, 1, none⟩ (.slice ao3 2 cap3)) from (Frame.refl [yb] w3).set (p := ⟨yb, 1, none⟩) (.inl (by simp)) _)
    have HY4 := Lib.hid (heap_set_same 1 (.slice ao3 2 cap3) HY3.out)
    have HX4 := Lib.hid (HF4.out.heap (hf3.heap HX2.out (by simp)) (fun hm => hyx (List.mem_singleton.1 hm).symm))
    have H3 := Lib.hid (And.intro ho3 (And.intro hf3 (And.intro hv3 hyx)))
    clear ho3 hB3 hf3 hv3 hyx
    have x4 := cell_of HX4.out 1
    have zx4 := frozen_of HX4.out
    go_wp2_with fail
    clear z3 y3 x4 zx4
    have HX5 := Lib.hid (heap_set_same 1 (.slice (some ⟨gdx, 0, none⟩) 2 2) HX4.out)
    have HF5 := Lib.hid (show Frame [xb] (w3.setCell ⟨yb, 1, none⟩ (.slice ao3 2 cap3)) ((w3.setCell ⟨yb, 1, none⟩ (.slice ao3 2 cap3)).setCell ⟨xb, 1, none⟩ (.slice (some ⟨gdx, 0, none⟩) 2 2)) from (Frame.refl [xb] _).set (p := ⟨xb, 1, none⟩) (.inl (by simp)) _)
    generalize hw4 : w3.setCell ⟨yb, 1, none⟩ (.slice ao3 2 cap3) = w4 at *
    generalize hw5 : w4.setCell ⟨xb, 1, none⟩ (.slice (some ⟨gdx, 0, none⟩) 2 2) = w5' at *
    clear hw4 hw5
    have HM := Lib.hid (show Mid h w w5' nb xb yb gx cx lv (.slice (some ⟨gd, 0, none⟩) nk cd) (.slice (some ⟨gdx, 0, none⟩) 4 cdx) (.slice (some ⟨gdx, 0, none⟩) 2 2) (.slice ao1 1 cap1) (.slice ao3 2 cap3) a c [p, q] [r, s] from by
      have hyn : w.heap.size ≤ yb := HV1.out.2.2.1
      have hfr : Frame [xb] w w5' := ((((HF2.out.mono (by simp)).trans (H3.out.2.1.mono (by simp))).then' HF4.out (fun k hk => .inr (by rw [List.mem_singleton.1 hk]; exact hyn))).trans HF5.out)
      have hnx : nb ≠ xb := fun e => by
        have h1 := List.nodup_iff_count.1 HN.out.nd nb
        rw [HN.out.fp] at h1
        have h2 : nb ∈ (List.map (fun k : Kid => k.2.2) (ks1 ++ (xb, Lx, Xx) :: ks2)).flatten := List.mem_flatten.2 ⟨Xx, by simp, by rw [e]; exact HX.out.own.1⟩
        have h3 := List.count_pos_iff.2 h2
        simp only [List.count_cons, List.count_append, beq_self_eq_true, if_pos] at h1
        omega
      have hgx' : gx ≠ xb := fun e => by
        obtain ⟨cur, hc⟩ := HX.out.lr.lt (k := gx) rfl
        rw [e, HX.out.b] at hc
        simp at hc
      have ty1 : ∀ k, (Value.slice ao1 1 cap1).ownBlock = some k → k ≠ yb ∧ k ≠ xb := fun k hk => by
        have h1 := HV1.out.2.1 k hk
        obtain ⟨cur, hc⟩ := owns_lt HV1.out.1 hk
        refine ⟨fun e => ?_, fun e => ?_⟩
        · rw [e, HY.out] at hc
          simp at hc
        · have := lt_of_heap HX.out.b
          omega
      refine ⟨hfr.heap HN.out.b (by simp; exact hnx), HX5.out, HF5.out.heap HY4.out (fun hm => H3.out.2.2.2 (List.mem_singleton.1 hm)), hfr, ?_, ?_, ?_, ?_, hyn, fun k hk => (HV1.out.2.1 k hk).1, fun k hk => ?_, rfl⟩
      · have h1 := owns_frame HV1.out.1 H3.out.2.1 (fun k hk hm => by cases hm)
        have h2 := owns_frame h1 HF4.out (fun k hk hm => (ty1 k hk).1 (List.mem_singleton.1 hm))
        exact .inl (owns_zero (owns_frame h2 HF5.out (fun k hk hm => (ty1 k hk).2 (List.mem_singleton.1 hm))))
      · have h2 := owns_frame H3.out.1 HF4.out (fun k hk hm => H3.out.2.2.1 (by rw [hk, List.mem_singleton.1 hm]))
        exact .inl (owns_zero (owns_frame h2 HF5.out (fun k hk hm => by
          have h1 := (World.ownsRow.lt H3.out.1 k hk).1
          have h3 := lt_of_heap HX2.out
          rw [List.mem_singleton.1 hm] at h1
          omega)))
      · exact HCUT2.out.frame hfr (fun k hk hm => by
          cases hk
          exact HGDX.out () (List.mem_singleton.1 hm))
      · exact HCUT.out.frame hfr (fun k hk hm => by
          cases hk
          exact hgx' (List.mem_singleton.1 hm))
      · have h1 := (World.ownsRow.lt H3.out.1 k hk).1
        have h2 := HF2.out.size
        omega)
    clear HY HV1 HF2 HX2 HY3 HF4 HY4 HX4 H3 HX5 HF5 HCUT2 HGDX
    go_wp2_with fail
    have HI := Lib.hid (fun (_ : Unit) => (HH.out ()).2.1)
    have hgb : w5'.heap[nb]? = some (.cells #[lv, .slice (some ⟨gd, 0, none⟩) nk cd] 119 (0, 0)) := HM.out.n
    have hnd : ∀ j, X.count j ≤ 1 := List.nodup_iff_count.1 HN.out.nd
    have hgxl : lv.ownBlock ≠ some gx ∧ gx ≠ nb ∧ gx ≠ xb ∧ lv.ownBlock ≠ some nb ∧ lv.ownBlock ≠ some xb ∧ nb ≠ xb ∧ gd ≠ nb ∧ gd ≠ xb := by
      have t1 : ∀ {k : Nat} {cur : Array Value} {c2 : Array Value}, w.heap[k]? = some (.cells cur 125 (0, 0)) → w.heap[k]? = some (.cells c2 119 (0, 0)) → False := fun h1 h2 => by rw [h1] at h2; simp at h2
      have t2 : ∀ {k : Nat} {cur : Array Value} {c2 : Array Value}, w.heap[k]? = some (.cells cur 115 (0, 0)) → w.heap[k]? = some (.cells c2 119 (0, 0)) → False := fun h1 h2 => by rw [h1] at h2; simp at h2
      have hXx := HX.out.own
      have hcg : X.count gx = X.count gx := rfl
      obtain ⟨curx, hcx'⟩ := HX.out.lr.lt (k := gx) rfl
      refine ⟨fun e => ?_, fun e => t1 hcx' (by rw [e]; exact HN.out.b), fun e => t1 hcx' (by rw [e]; exact HX.out.b), fun e => ?_, fun e => ?_, fun e => ?_, fun e => t2 HGD.out (by rw [e]; exact HN.out.b), fun e => t2 HGD.out (by rw [e]; exact HX.out.b)⟩
      · have h1 := hnd gx
        rw [HN.out.fp] at h1
        have h2 : gx ∈ (List.map (fun k : Kid => k.2.2) (ks1 ++ (xb, Lx, Xx) :: ks2)).flatten := List.mem_flatten.2 ⟨Xx, by simp, hXx.2.1 gx rfl⟩
        have h3 := List.count_pos_iff.2 h2
        simp only [List.count_cons, List.count_append, count_own, e, if_pos] at h1
        omega
      · obtain ⟨cur, hc⟩ := HN.out.lr.lt e
        exact t1 hc HN.out.b
      · obtain ⟨cur, hc⟩ := HN.out.lr.lt e
        exact t1 hc HX.out.b
      · have h1 := hnd nb
        rw [HN.out.fp] at h1
        have h2 : nb ∈ (List.map (fun k : Kid => k.2.2) (ks1 ++ (xb, Lx, Xx) :: ks2)).flatten := List.mem_flatten.2 ⟨Xx, by simp, by rw [e]; exact hXx.1⟩
        have h3 := List.count_pos_iff.2 h2
        simp only [List.count_cons, List.count_append, beq_self_eq_true, if_pos] at h1
        omega
    have HG := Lib.hid hgxl
    have hwb : ∀ (j : Nat) (u : Value), w.cell? ⟨gx, j, none⟩ = some u → w5'.cell? ⟨gx, j, none⟩ = some u := fun j u hu => HM.out.f.cell hu (by simp; exact HG.out.2.2.1)
    have hT0 : w5'.heap[nb]? = some (.cells #[lv, .slice (some ⟨gd, 0, none⟩) nk cd] 119 (0, 0)) ∧ w5'.heap[xb]? = some (.cells #[.slice (some ⟨gx, 0, none⟩) 3 cx, .slice (some ⟨gdx, 0, none⟩) 2 2] 119 (0, 0)) ∧ w5'.cell? ⟨gx, 3, none⟩ = some (.string b.key) ∧ w5'.cell? ⟨gx, 4, none⟩ = some (.string b.name) ∧ w5'.cell? ⟨gx, 5, none⟩ = some (.int .i64 b.node) :=
      ⟨HM.out.n, HM.out.x, hwb _ _ HB.out.1, hwb _ _ HB.out.2.1, hwb _ _ HB.out.2.2⟩
    have HT0 := Lib.hid hT0
    clear hgb hnd hgxl hwb hT0
    refine wp_region_plan (fun w5 => w5.heap[nb]? = some (.cells #[lv, .slice (some ⟨gd, 0, none⟩) nk cd] 119 (0, 0)) ∧ w5.heap[xb]? = some (.cells #[.slice (some ⟨gx, 0, none⟩) 3 cx, .slice (some ⟨gdx, 0, none⟩) 2 2] 119 (0, 0)) ∧ w5.cell? ⟨gx, 3, none⟩ = some (.string b.key) ∧ w5.cell? ⟨gx, 4, none⟩ = some (.string b.name) ∧ w5.cell? ⟨gx, 5, none⟩ = some (.int .i64 b.node)) 77
      [([0, 1, 5, 6, 2, 7, 3, 8, 4, 9, 10, 11], [12], true), ([], [13], true), ([14, 15], [16], false)] (by kernel_rfl) (by kernel_rfl) ?_
    apply wpStages_keep
    case hT => exact HT0.out
    case hn => exact Nat.le_refl _
    case hq =>
      rintro w5 ⟨t0, t1, t2, t3, t4⟩
      have c0 := cell_of t0 0
      have c1 := cell_of t1 0
      simp only [List.getElem?_toArray, List.getElem?_cons_zero] at c0 c1
      clear t0 t1
      simp only [picked, List.filterMap_cons, List.filterMap_nil, List.getElem?_cons_zero, List.getElem?_cons_succ]
      repeat still_step
      exact wpStill_nil rfl
    simp only [picked, List.filterMap_cons, List.filterMap_nil, List.getElem?_cons_zero, List.getElem?_cons_succ]
    go_wp2_with fail
    have hFA : Frame [] w5' ((w5'.alloc (.cells #[.string b.key, .string b.name, .int .i64 b.node] 125)).drew) := ((Frame.refl [] w5').alloc _).drew
    have hgbA := heap_alloc_new w5' (.cells #[.string b.key, .string b.name, .int .i64 b.node] 125)
    have HFA := Lib.hid hFA
    have HGB := Lib.hid (show ((w5'.alloc (.cells #[.string b.key, .string b.name, .int .i64 b.node] 125)).drew).heap[w5'.heap.size]? = some (.cells b.cells.toArray 125 (0, 0)) from hgbA)
    have hTA := HT0.out
    have HTA := Lib.hid (show ((w5'.alloc (.cells #[.string b.key, .string b.name, .int .i64 b.node] 125)).drew).heap[nb]? = some (.cells #[lv, .slice (some ⟨gd, 0, none⟩) nk cd] 119 (0, 0)) ∧ ((w5'.alloc (.cells #[.string b.key, .string b.name, .int .i64 b.node] 125)).drew).heap[xb]? = some (.cells #[.slice (some ⟨gx, 0, none⟩) 3 cx, .slice (some ⟨gdx, 0, none⟩) 2 2] 119 (0, 0)) ∧
        ((w5'.alloc (.cells #[.string b.key, .string b.name, .int .i64 b.node] 125)).drew).cell? ⟨gx, 3, none⟩ = some (.string b.key) ∧ ((w5'.alloc (.cells #[.string b.key, .string b.name, .int .i64 b.node] 125)).drew).cell? ⟨gx, 4, none⟩ = some (.string b.name) ∧ ((w5'.alloc (.cells #[.string b.key, .string b.name, .int .i64 b.node] 125)).drew).cell? ⟨gx, 5, none⟩ = some (.int .i64 b.node) from
      ⟨hFA.heap hTA.1 (by simp), hFA.heap hTA.2.1 (by simp), hFA.cell hTA.2.2.1 (by simp), hFA.cell hTA.2.2.2.1 (by simp), hFA.cell hTA.2.2.2.2 (by simp)⟩)
    have HAL := Lib.hid (show w5'.heap.size < ((w5'.alloc (.cells #[.string b.key, .string b.name, .int .i64 b.node] 125)).drew).heap.size from lt_of_heap HGB.out)
    clear hFA hgbA hTA
    generalize (w5'.alloc (.cells #[.string b.key, .string b.name, .int .i64 b.node] 125)).drew = wA at *
    refine OnlyNormal.mk ⟨HTA.out, ?_⟩
    apply wpStages_seqkeep
    simp only [picked, List.filterMap_cons, List.filterMap_nil, List.getElem?_cons_zero, List.getElem?_cons_succ]
    have hWs : w.heap.size ≤ w5'.heap.size := HM.out.f.size
    have hil : i ≤ l.length := by
      have := HH.out ()
      omega
    have hrow : HeadRow wA 125 3 lv l.length (flI (l.take i) ++ flI (l.drop i)) := by
      rw [← flI_append, List.take_append_drop]
      exact (HN.out.lr.frame HM.out.f (fun k hk hm => HG.out.2.2.2.2.1 (by rw [hk, List.mem_singleton.1 hm]))).frame HFA.out (by simp)
    have hins := insertI_head lv (flI (l.take i)) (flI (l.drop i)) b.cells i l.length w5'.heap.size wA (by rw [flI_len, List.length_take, Nat.min_eq_left hil]) hrow hil HGB.out rfl (fun u hu => flI_one [b] u (by simpa [flI] using hu)) (flI_one _) (fun e => by obtain ⟨cur, hc⟩ := HN.out.lr.lt e; have := lt_of_heap hc; omega) (by have := HH.out (); omega)
    have HINS := Lib.hid hins
    clear hWs hil hrow hins
    go_wp2_with fail
    refine HINS.out.mono ?_
    clear HINS
    rintro _ w6 ⟨v6, rfl, ho6, hF6, hn6⟩
    obtain ⟨ao6, cap6, rfl⟩ := ownsForm ho6
    have hnl : nb ∉ lv.ownBlock.toList := fun hm => HG.out.2.2.2.1 (by simpa using hm)
    have hxl : xb ∉ lv.ownBlock.toList := fun hm => HG.out.2.2.2.2.1 (by simpa using hm)
    have hgl : gx ∉ lv.ownBlock.toList := fun hm => HG.out.1 (by simpa using hm)
    have HT6 := Lib.hid (show w6.heap[nb]? = some (.cells #[lv, .slice (some ⟨gd, 0, none⟩) nk cd] 119 (0, 0)) ∧ w6.heap[xb]? = some (.cells #[.slice (some ⟨gx, 0, none⟩) 3 cx, .slice (some ⟨gdx, 0, none⟩) 2 2] 119 (0, 0)) ∧ w6.cell? ⟨gx, 3, none⟩ = some (.string b.key) ∧ w6.cell? ⟨gx, 4, none⟩ = some (.string b.name) ∧ w6.cell? ⟨gx, 5, none⟩ = some (.int .i64 b.node) from
      ⟨hF6.heap HTA.out.1 hnl, hF6.heap HTA.out.2.1 hxl, hF6.cell HTA.out.2.2.1 hgl, hF6.cell HTA.out.2.2.2.1 hgl, hF6.cell HTA.out.2.2.2.2 hgl⟩)
    have H6 := Lib.hid (And.intro ho6 (And.intro hF6 hn6))
    clear ho6 hF6 hn6 hnl hxl hgl
    go_wp2_with fail
    refine OnlyNormal.mk ⟨HT6.out, ?_⟩
    apply wpStages_last
    case hT => exact HT6.out
    case hn => exact Nat.le_refl _
    case hq =>
      rintro w5 -
      simp only [picked, List.filterMap_cons, List.filterMap_nil, List.getElem?_cons_zero, List.getElem?_cons_succ]
      repeat still_step
      exact wpStill_nil rfl
    simp only [picked, List.filterMap_cons, List.filterMap_nil, List.getElem?_cons_zero, List.getElem?_cons_succ]
    have z6 := frozen_of HT6.out.1
    have y6 := cell_of HT6.out.1 0
    go_wp2_with fail
    clear z6 y6
    refine OnlyNormal.mk ?_
    have HF7 := Lib.hid (show Frame [nb] w6 (w6.setCell ⟨nb, 0, none⟩ (.slice ao6 (l.length + 1) cap6)) from (Frame.refl [nb] w6).set (p := ⟨nb, 0, none⟩) (.inl (by simp)) _)
    have HN7 := Lib.hid (heap_set_same 0 (.slice ao6 (l.length + 1) cap6) HT6.out.1)
    have HX7 := Lib.hid (HF7.out.heap HT6.out.2.1 (fun hm => HG.out.2.2.2.2.2.1 (List.mem_singleton.1 hm).symm))
    have hgd7 : (w6.setCell ⟨nb, 0, none⟩ (.slice ao6 (l.length + 1) cap6)).heap.size = w6.heap.size := size_set _ _ _
    generalize w6.setCell ⟨nb, 0, none⟩ (.slice ao6 (l.length + 1) cap6) = w7 at *
    have c1 := cell_of HN7.out 1
    have HS7 := Lib.hid hgd7
    clear hgd7
    have hw1 : IntKind.i64.wrap ((i : Int) + 1) = (i : Int) + 1 := IntWalk.i64_in _ (by omega)
    have HGB7 := Lib.hid (heap_alloc_new w7 (.cells #[.pointer (some ⟨yb, 0, none⟩)] 115))
    have HFB := Lib.hid (show Frame [] w7 (w7.alloc (.cells #[.pointer (some ⟨yb, 0, none⟩)] 115)) from (Frame.refl [] w7).alloc _)
    have hgl6 : gd ∉ lv.ownBlock.toList := fun hm => by
      obtain ⟨cur, hc⟩ := HN.out.lr.lt (by simpa using hm)
      rw [HGD.out] at hc
      simp at hc
    have hrow : HeadRow (w7.alloc (.cells #[.pointer (some ⟨yb, 0, none⟩)] 115)) 115 1 (.slice (some ⟨gd, 0, none⟩) nk cd) nk (((ks1.map fun k => ptrV k.1) ++ [ptrV xb]) ++ (ks2.map fun k => ptrV k.1)) := by
      have h1 := HN.out.dr
      rw [← (HH.out ()).1] at h1
      have e : (List.map (fun k : Kid => ptrV k.1) (ks1 ++ (xb, Lx, Xx) :: ks2)) = ((ks1.map fun k => ptrV k.1) ++ [ptrV xb]) ++ (ks2.map fun k => ptrV k.1) := by simp
      rw [e] at h1
      have own : ∀ {Z : List Nat}, gd ∉ Z → ∀ k, (Value.slice (some ⟨gd, 0, none⟩) nk cd).ownBlock = some k → k ∉ Z := fun hz k hk => by
        cases hk
        exact hz
      exact ((((h1.frame HM.out.f (own (by simp; exact HG.out.2.2.2.2.2.2.2))).frame HFA.out (own (by simp))).frame H6.out.2.1 (own hgl6)).frame HF7.out (own (by simp; exact HG.out.2.2.2.2.2.2.1))).frame HFB.out (own (by simp))
    have hlt7 : gd < w7.heap.size := by
      have h1 := lt_of_heap HGD.out
      have h2 := HM.out.f.size
      have h3 := HFA.out.size
      have h4 := H6.out.2.1.size
      have h5 := HF7.out.size
      omega
    have hins := insertN_head (.slice (some ⟨gd, 0, none⟩) nk cd) ((ks1.map fun k => ptrV k.1) ++ [ptrV xb]) (ks2.map fun k => ptrV k.1) [ptrV yb] (i + 1) nk w7.heap.size (w7.alloc (.cells #[.pointer (some ⟨yb, 0, none⟩)] 115)) (by have := (HH.out ()).2.1; simp; omega) hrow (by omega) HGB7.out rfl (fun u hu => by rw [List.mem_singleton.1 hu]; rfl)
      (fun u hu => by obtain ⟨k, -, rfl⟩ := List.mem_map.1 hu; rfl) (fun e => by have e' : gd = w7.heap.size := by simpa [Value.ownBlock] using e
                                                                                 omega) (by have := HH.out (); omega)
    rw [show ((i + 1 : Nat) : Int) = (i : Int) + 1 by omega] at hins
    have HINS := Lib.hid hins
    clear hrow hins hgl6 hlt7
    go_wp2_with fail
    generalize w7.alloc (.cells #[.pointer (some ⟨yb, 0, none⟩)] 115) = wB at *
    refine HINS.out.mono ?_
    clear HINS
    rintro _ w8 ⟨v8, rfl, ho8, hF8, hn8⟩
    obtain ⟨ao8, cap8, rfl⟩ := ownsForm ho8
    have hF8' : Frame [gd] wB w8 := hF8
    have HN8 := Lib.hid (hF8'.heap (HFB.out.heap HN7.out (by simp)) (fun hm => HG.out.2.2.2.2.2.2.1 (List.mem_singleton.1 hm).symm))
    have HX8 := Lib.hid (hF8'.heap (HFB.out.heap HX7.out (by simp)) (fun hm => HG.out.2.2.2.2.2.2.2 (List.mem_singleton.1 hm).symm))
    have H8 := Lib.hid (And.intro ho8 (And.intro hF8' hn8))
    clear ho8 hF8 hF8' hn8 c1 hw1
    have z8 := frozen_of HN8.out
    have y8 := cell_of HN8.out 1
    have HF9 := Lib.hid (show Frame [nb] w8 (w8.setCell ⟨nb, 1, none⟩ (.slice ao8 (nk + 1) cap8)) from (Frame.refl [nb] w8).set (p := ⟨nb, 1, none⟩) (.inl (by simp)) _)
    have HN9 := Lib.hid (heap_set_same 1 (.slice ao8 (nk + 1) cap8) HN8.out)
    have HX9 := Lib.hid (HF9.out.heap HX8.out (fun hm => HG.out.2.2.2.2.2.1 (List.mem_singleton.1 hm).symm))
    have x9 := cell_of HX9.out 0
    have zx9 := frozen_of HX9.out
    simp only [List.getElem?_toArray, List.getElem?_cons_zero] at x9
    go_wp2_with fail
    go_end0
    refine Ret.of rfl (split_fin (lv' := .slice ao6 (l.length + 1) cap6) (dv' := .slice ao8 (nk + 1) cap8) (k1 := [p, q]) (k2 := [r, s]) HN.out (HH.out ()).2.1 (HH.out ()).2.2.1 HX.out (.inr ⟨rfl, rfl⟩) HM.out ?_ ?_ ?_ ?_ ?_ ?_ ?_)
    · have m1 : ∀ k ∈ [nb], k ∈ nb :: xb :: (lv.ownBlock.toList ++ [gd]) := fun k hk => by simp [List.mem_singleton.1 hk]
      have m2 : ∀ k ∈ lv.ownBlock.toList, k ∈ nb :: xb :: (lv.ownBlock.toList ++ [gd]) := fun k hk => by
        simp only [List.mem_cons, List.mem_append]
        exact .inr (.inr (.inl hk))
      have m3 : ∀ k ∈ [gd], k ∈ nb :: xb :: (lv.ownBlock.toList ++ [gd]) := fun k hk => by simp [List.mem_singleton.1 hk]
      have m0 : ∀ k ∈ ([] : List Nat), k ∈ nb :: xb :: (lv.ownBlock.toList ++ [gd]) := fun k hk => by cases hk
      exact ((((((HFA.out.mono m0).trans (H6.out.2.1.mono m2)).trans (HF7.out.mono m1)).trans (HFB.out.mono m0)).trans (H8.out.2.1.mono m3)).trans (HF9.out.mono m1)).set (p := ⟨xb, 0, none⟩) (.inl (by simp)) _
    · exact (heap_set_other _ _ _ (show nb ≠ xb from HG.out.2.2.2.2.2.1)).trans HN9.out
    · exact heap_set_same 0 _ HX9.out
    · have e : flI (l.take i ++ b :: l.drop i) = flI (l.take i) ++ b.cells ++ flI (l.drop i) := by rw [flI_append, flI_cons, List.append_assoc]
      rw [e]
      have hk6 : ∀ k, (Value.slice ao6 (l.length + 1) cap6).ownBlock = some k → k ≠ nb ∧ k ≠ xb ∧ k ≠ gd := fun k hk => by
        obtain ⟨cur, hc⟩ := owns_lt H6.out.1 hk
        refine ⟨fun q => ?_, fun q => ?_, fun q => ?_⟩
        · rw [q, HT6.out.1] at hc
          simp at hc
        · rw [q, HT6.out.2.1] at hc
          simp at hc
        · subst q
          rcases H6.out.2.2 k hk with g | g
          · obtain ⟨cur', hc'⟩ := HN.out.lr.lt g
            rw [HGD.out] at hc'
            simp at hc'
          · have h1 := lt_of_heap HGD.out
            have h2 := HM.out.f.size
            have h3 := HFA.out.size
            omega
      have hX : Frame [xb] (w8.setCell ⟨nb, 1, none⟩ (.slice ao8 (nk + 1) cap8)) ((w8.setCell ⟨nb, 1, none⟩ (.slice ao8 (nk + 1) cap8)).setCell ⟨xb, 0, none⟩ (.slice (some ⟨gx, 0, none⟩) 1 1)) := (Frame.refl [xb] _).set (p := ⟨xb, 0, none⟩) (.inl (by simp)) _
      have h1 := owns_frame H6.out.1 HF7.out (fun k hk hm => (hk6 k hk).1 (List.mem_singleton.1 hm))
      have h2 := owns_frame h1 HFB.out (fun k hk hm => by cases hm)
      have h3 := owns_frame h2 H8.out.2.1 (fun k hk hm => (hk6 k hk).2.2 (List.mem_singleton.1 hm))
      have h4 := owns_frame h3 HF9.out (fun k hk hm => (hk6 k hk).1 (List.mem_singleton.1 hm))
      exact owns_frame h4 hX (fun k hk hm => (hk6 k hk).2.1 (List.mem_singleton.1 hm))
    · have hk8 : ∀ k, (Value.slice ao8 (nk + 1) cap8).ownBlock = some k → k ≠ nb ∧ k ≠ xb := fun k hk => by
        obtain ⟨cur, hc⟩ := owns_lt H8.out.1 hk
        refine ⟨fun q => ?_, fun q => ?_⟩
        · rw [q, HN8.out] at hc
          simp at hc
        · rw [q, HX8.out] at hc
          simp at hc
      have hX : Frame [xb] (w8.setCell ⟨nb, 1, none⟩ (.slice ao8 (nk + 1) cap8)) ((w8.setCell ⟨nb, 1, none⟩ (.slice ao8 (nk + 1) cap8)).setCell ⟨xb, 0, none⟩ (.slice (some ⟨gx, 0, none⟩) 1 1)) := (Frame.refl [xb] _).set (p := ⟨xb, 0, none⟩) (.inl (by simp)) _
      have h1 := owns_frame H8.out.1 HF9.out (fun k hk hm => (hk8 k hk).1 (List.mem_singleton.1 hm))
      have h2 := owns_frame h1 hX (fun k hk hm => (hk8 k hk).2 (List.mem_singleton.1 hm))
      rw [← (HH.out ()).1]
      have e : (ks1.map fun k => ptrV k.1) ++ ptrV xb :: ptrV yb :: (ks2.map fun k => ptrV k.1) = ((ks1.map fun k => ptrV k.1) ++ [ptrV xb]) ++ [ptrV yb] ++ (ks2.map fun k => ptrV k.1) := by simp
      rw [e]
      exact h2
    · exact fun k hk => (H6.out.2.2 k hk).imp id (fun g => by have := HFA.out.size; omega)
    · exact fun k hk => (H8.out.2.2 k hk).imp id (fun g => by
        have h3 := HFA.out.size
        have h4 := H6.out.2.1.size
        have h5 := HF7.out.size
        have h6 := HFB.out.size
        omega)


end Go.Proofs.Ytkapmpngglibjaa
