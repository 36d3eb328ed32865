/- An entry put into a tree. Conditions: the contract's own premises. -/
import Derived.Test.YtkapmpngglibjaaTreG
import Derived.Deep.LoopGhost
namespace Go.Proofs.Ytkapmpngglibjaa
open Go Go.RowKit

theorem HeadRow.setCell {w : World} {e : TypeId} {s n g cap : Nat} {xs : List Value} (h : HeadRow w e s (.slice (some ⟨g, 0, none⟩) n cap) n xs) (j : Nat) (u : Value) (hj : j < xs.length) : HeadRow (w.setCell ⟨g, j, none⟩ u) e s (.slice (some ⟨g, 0, none⟩) n cap) n (xs.set j u) := by
  rcases h with h | ⟨g', xt, he, h1, h2, h3⟩
  · exact .inl (owns_setK h j u)
  · cases he
    refine .inr ⟨g, xt, rfl, ?_, by rw [List.length_set]; exact h2, h3⟩
    rw [heap_set_same j u h1]
    congr 2
    apply Array.ext'
    simp [List.set_append_left _ _ hj]

theorem flI_set (l : List Itm) (i : Nat) (y : Itm) (hy : l[i]? = some y) (nm : ByteArray) (nd : Int) : ((flI l).set (i * 3 + 1) (.string nm)).set (i * 3 + 2) (.int .i64 nd) = flI (l.set i ⟨y.key, nm, nd⟩) := by
  obtain ⟨h1, h2⟩ := list_at l i y hy
  have hi := (List.getElem?_eq_some_iff.1 hy).1
  have hl : (flI (l.take i)).length = i * 3 := by rw [flI_len, List.length_take, Nat.min_eq_left (by omega)]
  rw [h2]
  conv => lhs; rw [h1]
  rw [flI_append, flI_append, flI_cons, flI_cons]
  rw [List.set_append_right _ _ (by omega), List.set_append_right _ _ (by rw [hl]; omega), hl, Nat.add_sub_cancel_left, Nat.add_sub_cancel_left]
  rfl

def PutI (w wr : World) (H tb : Nat) (X : List Nat) (L : List Itm) (key : ByteArray) (n nb : Nat) : Prop :=
  ∃ (h : Nat) (A B Lf : List Itm) (Xf : List Nat) (lv dv : Value) (l : List Itm) (ks : List Kid), NodeEx (fun p q r => NodeAt h wr p q r) wr nb lv dv l ks Lf Xf ∧ Wand (h + 1) w wr H tb nb X Xf A B ∧ Frame X w wr ∧ Fresh w X Xf ∧ A ++ Lf ++ B = L ∧
    (∀ p ∈ A, lessK p.key key) ∧ (∀ p ∈ B, lessK key p.key) ∧ ((l.length ≤ 2 ∧ 2 * h + 2 ≤ n) ∨ ((∃ (kid : Kid) (c : Nat), ks[lowI l key]? = some kid ∧ CntAt wr kid.1 c ∧ c ≤ 2) ∧ 2 * h + 1 ≤ n))

def PutRes (w : World) (tb : Nat) (X : List Nat) (L : List Itm) (x : Itm) (w' : World) : Prop := ∃ (L' : List Itm) (X' : List Nat) (H' : Nat), TreeAt H' w' tb L' X' ∧ InsRel L x L' ∧ Frame X w w' ∧ Fresh w X X'

/-- The end: the node in hand has it. -/
theorem put_done {h H tb nb : Nat} {w w1 w' : World} {X Xf : List Nat} {A B L Lf Lf' : List Itm} {Xf' : List Nat} {x : Itm} (hw : Wand h w w1 H tb nb X Xf A B) (hfr : Frame X w w1) (hfx : Fresh w X Xf) (hL : A ++ Lf ++ B = L) (hA : ∀ p ∈ A, lessK p.key x.key) (hB : ∀ p ∈ B, lessK x.key p.key)
    (hf : Frame Xf w1 w') (hn : NodeAt h w' nb Lf' Xf') (hx : Fresh w1 Xf Xf') (hi : InsRel Lf x Lf') : PutRes w tb X L x w' := by
  obtain ⟨Z, h1, h2⟩ := hw w' Lf' Xf' hf hn hx
  subst hL
  exact ⟨_, Z, H, h1, hi.inside hA hB, hfr.then' hf hfx, h2⟩

theorem ins_list {l : List Itm} {k : ByteArray} (hr : RisI l) (h : hasI l k = false) : (∀ p ∈ l.take (lowI l k), lessK p.key k) ∧ ∀ s ∈ l.drop (lowI l k), lessK k s.key := by
  refine ⟨fun p hp => ?_, fun s hs => ?_⟩
  · obtain ⟨j, hj⟩ := List.getElem?_of_mem hp
    have hlt : j < lowI l k := by
      have := (List.getElem?_eq_some_iff.1 hj).1
      rw [List.length_take] at this
      omega
    rw [List.getElem?_take_of_lt hlt] at hj
    exact lowI_below hlt hj
  · have hr2 : RisI (l.drop (lowI l k)) := hr.sub (List.drop_sublist _ _)
    cases hd : l.drop (lowI l k) with
    | nil => rw [hd] at hs; cases hs
    | cons z zs =>
      rw [hd] at hs hr2
      have hz : l[lowI l k]? = some z := by
        have := congrArg (fun q => q[0]?) hd
        simpa [List.getElem?_drop] using this
      have h1 := lowI_at h hz
      rcases List.mem_cons.1 hs with rfl | hs
      · exact h1
      · exact h1.trans (hr2.cons.2 s hs)

theorem len_three {α : Type} : ∀ (l : List α), l.length = 3 → ∃ p q r, l = [p, q, r]
  | [p, q, r], _ => ⟨p, q, r, rfl⟩
  | [], h => by cases h
  | [_], h => by cases h
  | [_, _], h => by cases h
  | _ :: _ :: _ :: _ :: _, h => by simp at h

theorem list_split {α : Type} (l : List α) (i : Nat) (h : i < l.length) : ∃ l1 x l2, l = l1 ++ x :: l2 ∧ l1.length = i :=
  ⟨l.take i, l[i], l.drop (i + 1), by rw [← List.drop_eq_getElem_cons h, List.take_append_drop], by rw [List.length_take]; omega⟩

/-- Where a key is to be sought once the middle of a full node has come up. -/
theorem low_after {l : List Itm} {k : ByteArray} {b : Itm} : lowI (l.take (lowI l k) ++ b :: l.drop (lowI l k)) k = lowI l k ∨ lowI (l.take (lowI l k) ++ b :: l.drop (lowI l k)) k = lowI l k + 1 := by
  have hle := lowI_le l k
  have htl : (l.take (lowI l k)).length = lowI l k := by rw [List.length_take]; omega
  have hlow : ∀ (j : Nat) (c : Chg), j < lowI l k → (KI (l.take (lowI l k) ++ b :: l.drop (lowI l k)))[j]? = some c → bl c.key.toList k.toList = true := fun j c hj hc => by
    rw [KI_get, List.getElem?_append_left (by omega), List.getElem?_take_of_lt hj] at hc
    cases hx : l[j]? with
    | none => rw [hx] at hc; simp at hc
    | some x =>
      rw [hx] at hc
      simp at hc
      subst hc
      exact lowI_below hj hx
  have hlen : (KI (l.take (lowI l k) ++ b :: l.drop (lowI l k))).length = l.length + 1 := by rw [KI_len, List.length_append, List.length_cons, List.length_take, List.length_drop]; omega
  have hmid : (KI (l.take (lowI l k) ++ b :: l.drop (lowI l k)))[lowI l k]? = some b.c := by
    rw [KI_get, List.getElem?_append_right (by omega), htl, Nat.sub_self]
    rfl
  by_cases hb : bl b.key.toList k.toList = true
  · right
    refine low_unique _ k _ (by rw [hlen]; omega) (fun j c hj hc => ?_) (fun c hc => ?_)
    · by_cases hji : j < lowI l k
      · exact hlow j c hji hc
      · obtain rfl : j = lowI l k := by omega
        rw [hmid] at hc
        cases hc
        exact hb
    · rw [KI_get, List.getElem?_append_right (by omega), htl, Nat.add_sub_cancel_left, List.getElem?_cons_succ, List.getElem?_drop, Nat.add_zero] at hc
      refine low_next (KI l) k c ?_
      rw [KI_get]
      exact hc
  · left
    refine low_unique _ k _ (by rw [hlen]; omega) hlow (fun c hc => ?_)
    rw [hmid] at hc
    cases hc
    exact (by simpa using hb : bl b.key.toList k.toList = false)

theorem put_base {w wb w' : World} {tb : Nat} {X : List Nat} {L : List Itm} {x : Itm} (hf : Frame [] w wb) (h : PutRes wb tb X L x w') : PutRes w tb X L x w' := by
  obtain ⟨L', X', H', h1, h2, h3, h4⟩ := h
  exact ⟨L', X', H', h1, h2, (hf.mono (by simp)).trans h3, fun k hk => (h4 k hk).imp id (fun g => Nat.le_trans hf.size g)⟩

/-- A node whose items have changed in their place, or have been laid anew. -/
theorem NodeEx.items {h nb : Nat} {w w' : World} {lv lv' dv : Value} {l l' : List Itm} {ks : List Kid} {L L' : List Itm} {X Y : List Nat} (hn : NodeEx (fun p q r => NodeAt h w p q r) w nb lv dv l ks L X) (hf : Frame Y w w') (hY : ∀ k ∈ Y, k = nb ∨ lv.ownBlock = some k)
    (hb : w'.heap[nb]? = some (.cells #[lv', dv] 119 (0, 0))) (hlr : HeadRow w' 125 3 lv' l'.length (flI l')) (h3 : l'.length ≤ 3) (ho : ∀ k, lv'.ownBlock = some k → lv.ownBlock = some k ∨ w.heap.size ≤ k)
    (hs : (ks = [] ∧ L' = l') ∨ (ks.length = l'.length + 1 ∧ L' = weave (ks.map (·.2.1)) l')) : ∃ X', NodeEx (fun p q r => NodeAt h w' p q r) w' nb lv' dv l' ks L' X' ∧ Fresh w X X' ∧ Frame X w w' := by
  have hnd := List.nodup_iff_count.1 hn.nd
  have hlt := NodeAt.lt (h + 1) nb L X ⟨lv, dv, l, ks, hn⟩
  have fpX : X = nb :: (lv.ownBlock.toList ++ (dv.ownBlock.toList ++ fpOf ks)) := hn.fp
  have hc : ∀ j, (if nb = j then 1 else 0) + (lv.ownBlock.toList.count j + (dv.ownBlock.toList.count j + (fpOf ks).count j)) ≤ 1 := fun j => by
    have := hnd j
    rw [fpX] at this
    simp only [List.count_cons, List.count_append, beq_iff_eq] at this
    omega
  have hout : ∀ j, (dv.ownBlock = some j ∨ j ∈ fpOf ks) → j ∉ Y := fun j hj hm => by
    have h5 := hc j
    have h6 : (if nb = j then 1 else 0) + lv.ownBlock.toList.count j ≥ 1 := by
      rcases hY j hm with rfl | e
      · rw [if_pos rfl]; omega
      · rw [e]; simp
    rcases hj with e | e
    · rw [e] at h5; simp at h5; omega
    · have := List.count_pos_iff.2 e; omega
  refine ⟨nb :: (lv'.ownBlock.toList ++ (dv.ownBlock.toList ++ fpOf ks)), ⟨hb, hlr, hn.dr.frame hf (fun k hk => hout k (.inl hk)), h3, hs, fun k hk => ?_, rfl, ?_⟩, fun k hk => ?_, hf.mono fun k hk => ?_⟩
  · exact NodeAt.frame hf h _ _ _ (hn.kids k hk) (fun j hj => hout j (.inr (List.mem_flatten.2 ⟨k.2.2, List.mem_map.2 ⟨k, hk, rfl⟩, hj⟩)))
  · refine List.nodup_iff_count.2 fun j => ?_
    have h5 := hc j
    have o1 := ho j
    simp only [List.count_cons, List.count_append, beq_iff_eq, count_own] at h5 ⊢
    by_cases q : lv'.ownBlock = some j
    · rw [if_pos q]
      rcases o1 q with e | e
      · rw [if_pos e] at h5
        omega
      · have h0 : X.count j = 0 := List.count_eq_zero.2 fun hm => by have := hlt j hm; omega
        rw [fpX] at h0
        simp only [List.count_cons, List.count_append, beq_iff_eq, count_own] at h0
        omega
    · rw [if_neg q]
      omega
  · rw [fpX]
    simp only [List.mem_cons, List.mem_append, Option.mem_toList] at hk ⊢
    rcases hk with e | e | e | e
    · exact .inl (.inl e)
    · exact (ho k e).imp (fun e => .inr (.inl e)) id
    · exact .inl (.inr (.inr (.inl e)))
    · exact .inl (.inr (.inr (.inr e)))
  · rw [fpX]
    rcases hY k hk with e | e
    · simp [e]
    · simp only [List.mem_cons, List.mem_append, Option.mem_toList]
      exact .inr (.inl e)

set_option maxHeartbeats 16000000 in
set_option maxRecDepth 100000 in
theorem put_any (H tb : Nat) (w : World) (L : List Itm) (X : List Nat) (kx nm : ByteArray) (nd : Int) (hT : TreeAt H w tb L X) (hr : RisI L) :
    Calls Try.prog 28 #[ptrV tb, .string kx, .agg #[.string nm, .int .i64 nd]] w (Ret (.tuple #[]) (PutRes w tb X L ⟨kx, nm, nd⟩)) := by
  obtain ⟨rb, Xr, ht, hN, hX, htX⟩ := hT
  obtain ⟨h0, rfl⟩ : ∃ h0, H = h0 + 1 := by
    cases H with
    | zero => exact hN.elim
    | succ h0 => exact ⟨h0, rfl⟩
  obtain ⟨lv0, dv0, l0, ks0, hn⟩ := hN
  obtain ⟨aol, capl, rfl, -⟩ := hn.lr.form
  have HRIS := Lib.hid hr
  have HFW := Lib.hid (show Frame [] w (w.alloc (.cells #[.string nm, .int .i64 nd] 59)) from (Frame.refl [] w).alloc _)
  have hXlt : ∀ k ∈ X, k < w.heap.size := fun k hk => by
    rw [hX] at hk
    rcases List.mem_cons.1 hk with rfl | hk
    · exact lt_of_heap ht
    · exact NodeAt.lt (h0 + 1) rb L Xr ⟨_, dv0, l0, ks0, hn⟩ k hk
  have HE := Lib.hid (show (w.alloc (.cells #[.string nm, .int .i64 nd] 59)).heap[w.heap.size]? = some (.cells #[.string nm, .int .i64 nd] 59 (0, 0)) ∧ w.heap.size ∉ X ∧ (w.alloc (.cells #[.string nm, .int .i64 nd] 59)).heap.size = w.heap.size + 1 from ⟨heap_alloc_new _ _, fun hm => by have := hXlt _ hm; omega, size_alloc _ _⟩)
  have HT := Lib.hid (HFW.out.heap ht (by simp))
  have HN0 := Lib.hid (hn.frame (P' := fun p q r => NodeAt h0 (w.alloc (.cells #[.string nm, .int .i64 nd] 59)) p q r) HFW.out (by simp) (fun k hk hp => NodeAt.frame HFW.out h0 _ _ _ hp (by simp)))
  have HXX := Lib.hid (And.intro hX (And.intro htX hXlt))
  have t0 := cell_of HT.out 0
  have r0 := cell_of HN0.out.b 0
  unfold ptrV at t0
  simp only [List.getElem?_toArray, List.getElem?_cons_zero] at t0 r0
  have hl3 := hn.l3
  clear hr ht hn hX htX hXlt
  unfold ptrV
  go_enter Try.func28, Try.ntmps28
  by_cases hfull : l0.length = 3
  · have hfull' : (l0.length : Int) = 3 := by omega
    have hfb : ((l0.length : Int) == 3) = true := by simpa using hfull'
    obtain ⟨a, b, c, rfl⟩ := len_three l0 hfull
    clear hfull
    simp only [List.length_cons, List.length_nil, Nat.zero_add, Nat.reduceAdd] at *
    have hs0 : (w.alloc (.cells #[.string nm, .int .i64 nd] 59)).heap.size = w.heap.size + 1 := size_alloc _ _
    have hFB : Frame [] (w.alloc (.cells #[.string nm, .int .i64 nd] 59)) (((w.alloc (.cells #[.string nm, .int .i64 nd] 59)).alloc (.cells #[.pointer (some ⟨rb, 0, none⟩)] 115)).alloc (.cells #[.slice none 0 0, .slice (some ⟨w.heap.size + 1, 0, none⟩) 1 1] 119)) := ((Frame.refl [] _).alloc _).alloc _
    have hTB := hFB.heap HT.out (by simp)
    have hBK : (((w.alloc (.cells #[.string nm, .int .i64 nd] 59)).alloc (.cells #[.pointer (some ⟨rb, 0, none⟩)] 115)).alloc (.cells #[.slice none 0 0, .slice (some ⟨w.heap.size + 1, 0, none⟩) 1 1] 119)).heap[w.heap.size + 1]? = some (.cells #[.pointer (some ⟨rb, 0, none⟩)] 115 (0, 0)) := by
      rw [heap_alloc_old _ _ (by rw [size_alloc, hs0]; omega), ← hs0]
      exact heap_alloc_new _ _
    have hQB : (((w.alloc (.cells #[.string nm, .int .i64 nd] 59)).alloc (.cells #[.pointer (some ⟨rb, 0, none⟩)] 115)).alloc (.cells #[.slice none 0 0, .slice (some ⟨w.heap.size + 1, 0, none⟩) 1 1] 119)).heap[w.heap.size + 1 + 1]? = some (.cells #[.slice none 0 0, .slice (some ⟨w.heap.size + 1, 0, none⟩) 1 1] 119 (0, 0)) := by
      rw [← hs0, ← size_alloc (w.alloc (.cells #[.string nm, .int .i64 nd] 59)) (.cells #[.pointer (some ⟨rb, 0, none⟩)] 115)]
      exact heap_alloc_new _ _
    have zt := frozen_of hTB
    have tB := cell_of hTB 0
    have hTC := heap_set_same 0 (.pointer (some ⟨w.heap.size + 1 + 1, 0, none⟩)) hTB
    have tC := cell_of hTC 0
    have hFC : Frame [tb] (((w.alloc (.cells #[.string nm, .int .i64 nd] 59)).alloc (.cells #[.pointer (some ⟨rb, 0, none⟩)] 115)).alloc (.cells #[.slice none 0 0, .slice (some ⟨w.heap.size + 1, 0, none⟩) 1 1] 119)) ((((w.alloc (.cells #[.string nm, .int .i64 nd] 59)).alloc (.cells #[.pointer (some ⟨rb, 0, none⟩)] 115)).alloc (.cells #[.slice none 0 0, .slice (some ⟨w.heap.size + 1, 0, none⟩) 1 1] 119)).setCell ⟨tb, 0, none⟩ (.pointer (some ⟨w.heap.size + 1 + 1, 0, none⟩))) := (Frame.refl [tb] _).set (p := ⟨tb, 0, none⟩) (.inl (by simp)) _
    have HFC := Lib.hid (And.intro ((hFB.mono (by simp)).trans hFC) (And.intro hTC (And.intro (hFC.heap hBK (fun hm => by have e := List.mem_singleton.1 hm; have := HXX.out.2.2 tb (by rw [HXX.out.1]; simp); omega)) (hFC.heap hQB (fun hm => by have e := List.mem_singleton.1 hm; have := HXX.out.2.2 tb (by rw [HXX.out.1]; simp); omega)))))
    simp only [List.getElem?_toArray, List.getElem?_cons_zero] at tB
    clear hFB hTB hBK hQB hTC hFC hs0
    go_wp2_with fail
    clear tB tC zt
    generalize ((((w.alloc (.cells #[.string nm, .int .i64 nd] 59)).alloc (.cells #[.pointer (some ⟨rb, 0, none⟩)] 115)).alloc (.cells #[.slice none 0 0, .slice (some ⟨w.heap.size + 1, 0, none⟩) 1 1] 119)).setCell ⟨tb, 0, none⟩ (.pointer (some ⟨w.heap.size + 1 + 1, 0, none⟩))) = wC at *
    generalize hwb : w.alloc (.cells #[.string nm, .int .i64 nd] 59) = wb at *
    generalize heb : w.heap.size = eb at *
    clear hwb heb t0 r0
    have hXr : ∀ k ∈ Xr, k < eb := fun k hk => HXX.out.2.2 k (by rw [HXX.out.1]; simp [hk])
    have htb : tb < eb := HXX.out.2.2 tb (by rw [HXX.out.1]; simp)
    have hNC : NodeEx (fun p q r => NodeAt h0 wC p q r) wC rb (.slice aol 3 capl) dv0 [a, b, c] ks0 L Xr := HN0.out.frame HFC.out.1 (fun k hk hm => HXX.out.2.1 (by rw [← List.mem_singleton.1 hm]; exact hk)) (fun k hk hp => NodeAt.frame HFC.out.1 h0 _ _ _ hp (fun j hj hm => HXX.out.2.1 (by rw [← List.mem_singleton.1 hm]; exact HN0.out.own.2.2.2 k hk j hj)))
    have hQ : NodeEx (fun p q r => NodeAt (h0 + 1) wC p q r) wC (eb + 1 + 1) (.slice none 0 0) (.slice (some ⟨eb + 1, 0, none⟩) 1 1) [] ([] ++ (rb, L, Xr) :: []) L ((eb + 1 + 1) :: ((eb + 1) :: Xr)) := by
      refine ⟨HFC.out.2.2.2, .inl (World.ownsRow_nil _ _ _ _), .inr ⟨eb + 1, [], rfl, HFC.out.2.2.1, rfl, by simp⟩, by simp, .inr ⟨rfl, by simp [weave]⟩, fun k hk => ?_, by simp [Value.ownBlock], ?_⟩
      · rw [List.nil_append, List.mem_singleton] at hk
        rw [hk]
        exact ⟨_, _, _, _, hNC⟩
      · refine List.nodup_cons.2 ⟨fun hm => ?_, List.nodup_cons.2 ⟨fun hm => ?_, HN0.out.nd⟩⟩
        · rcases List.mem_cons.1 hm with e | e
          · omega
          · have := hXr _ e
            omega
        · have := hXr _ hm
          omega
    have hsp := split_any h0 (eb + 1 + 1) 0 wC (.slice none 0 0) (.slice (some ⟨eb + 1, 0, none⟩) 1 1) [] [] [] L _ rb L Xr _ dv0 a b c ks0 hQ rfl (by decide) hNC
    unfold ptrV at hsp
    have HSP := Lib.hid (show Calls Try.prog 69 #[.pointer (some ⟨eb + 1 + 1, 0, none⟩), .int .i64 0] wC _ from hsp)
    clear hsp hNC hQ
    refine HSP.out.mono ?_
    clear HSP
    rintro _ w2 ⟨rfl, lv', dv', yb, L1, L3, X', X1, X3, hn', -, -, hF, hFr⟩
    have hX2 : ∀ k ∈ (eb + 1 + 1) :: ((eb + 1) :: Xr), k ∈ X ∨ wb.heap.size ≤ k := fun k hk => by
      have hsz := HE.out.2.2
      rcases List.mem_cons.1 hk with rfl | hk
      · right; omega
      rcases List.mem_cons.1 hk with rfl | hk
      · right; omega
      · left
        rw [HXX.out.1]
        simp [hk]
    have htn : tb ∉ (eb + 1 + 1) :: ((eb + 1) :: Xr) := fun hm => by
      rcases List.mem_cons.1 hm with e | hm
      · omega
      rcases List.mem_cons.1 hm with e | hm
      · omega
      · exact HXX.out.2.1 hm
    have hCs : wb.heap.size ≤ wC.heap.size := HFC.out.1.size
    have htX' : tb ∉ X' := fun hm => (hFr tb hm).elim htn (fun g => by have := lt_of_heap HFC.out.2.1; omega)
    have hT2 := hF.heap HFC.out.2.1 htn
    have HT2 := Lib.hid hT2
    have t2 := cell_of hT2 0
    have hfx : Fresh wb X X' := fun k hk => (hFr k hk).elim (hX2 k) (fun g => .inr (by omega))
    have HI := Lib.hid (show PutI wb w2 (h0 + 1 + 1) tb X L kx (2 * (h0 + 1) + 2) (eb + 1 + 1) from
      ⟨h0 + 1, [], [], L, X', lv', dv', _, _, hn', fun w' L' X'' f1 f2 f3 => ⟨tb :: X'', ⟨eb + 1 + 1, X'', f1.heap hT2 htX', by simpa using f2, rfl, fun hm => (f3 _ hm).elim htX' (fun g => by have := lt_of_heap hT2; omega)⟩, fun k hk => by
        rcases List.mem_cons.1 hk with rfl | hk
        · exact .inl (by rw [HXX.out.1]; simp)
        · exact (f3 k hk).elim (fun e => hfx k e) (fun g => .inr (by have := hF.size; omega))⟩, (HFC.out.1.mono (fun k hk => by rw [HXX.out.1, List.mem_singleton.1 hk]; simp)).then' hF hX2, hfx, by simp, by simp, by simp, .inl ⟨by simp, Nat.le_refl _⟩⟩)
    clear hn' hF hFr hX2 htn hCs htX' hT2 hfx hXr htb
    go_wp2_with fail
    clear t2
    go_loopg [6] (2 * (h0 + 1) + 2) (fun k n wr => ∃ nb : Nat, n = .pointer (some ⟨nb, 0, none⟩) ∧ Hid (PutI wb wr (h0 + 1 + 1) tb X L kx k nb))
    case atStart => exact ⟨(eb + 1 + 1), rfl, HI⟩
    case round =>
      clear HI
      obtain ⟨nb, rfl, HI⟩ := hrel
      obtain ⟨h, A, B, Lf, Xf, lv, dv, l, ks, hn, hw, hfr, hfx, hL, hA, hB, hhot⟩ := HI.out
      have hrf : RisI Lf := by
        have h1 := HRIS.out
        rw [← hL] at h1
        exact h1.app.1.app.2.1
      have hrl : RisI l := hn.ris hrf
      have hfd := find_any nb lv dv l kx wr hn.b hn.lr.items (by have := hn.l3; omega) hrl
      unfold ptrV at hfd
      have HFD := Lib.hid hfd
      have HN := Lib.hid hn
      have HST := Lib.hid (And.intro hw (And.intro hfr (And.intro hfx (And.intro hL (And.intro hA (And.intro hB (And.intro hhot hrl)))))))
      have hi3 := lowI_le l kx
      have hl3 := hn.l3
      have hi0 : (0 : Int) ≤ (lowI l kx : Int) := by omega
      clear hfd hn hw hfr hfx hL hA hB hhot hrf hrl
      obtain ⟨i, hi⟩ : ∃ i, i = lowI l kx := ⟨_, rfl⟩
      rw [← hi] at HFD hi3 hi0
      have HIL := Lib.hid (fun (_ : Unit) => hi)
      clear hi
      go_wp2_with fail
      refine HFD.out.mono ?_
      clear HFD
      rintro _ w1 ⟨rfl, hB1⟩
      have HN1 := Lib.hid (HN.out.frame (P' := fun p q r => NodeAt h w1 p q r) (Frame.of_below [] hB1) (by simp) (fun k hk hp => NodeAt.frame (Frame.of_below [] hB1) h _ _ _ hp (by simp)))
      have HS1 := Lib.hid (show Wand (h + 1) wb w1 (h0 + 1 + 1) tb nb X Xf A B ∧ Frame X wb w1 ∧ Fresh wb X Xf ∧ A ++ Lf ++ B = L ∧ (∀ p ∈ A, lessK p.key kx) ∧ (∀ p ∈ B, lessK kx p.key) ∧ RisI l from
        ⟨HST.out.1.moved (Frame.of_below _ hB1) (Fresh.refl _ _), HST.out.2.1.trans (Frame.of_below _ hB1), HST.out.2.2.1, HST.out.2.2.2.1, HST.out.2.2.2.2.1, HST.out.2.2.2.2.2.1, HST.out.2.2.2.2.2.2.2⟩)
      have HHOT := Lib.hid (show (l.length ≤ 2 ∧ 2 * h + 2 ≤ gk) ∨ ((∃ (kid : Kid) (c : Nat), ks[i]? = some kid ∧ CntAt w1 kid.1 c ∧ c ≤ 2) ∧ 2 * h + 1 ≤ gk) from by
        refine HST.out.2.2.2.2.2.2.1.imp id (fun g => ⟨?_, g.2⟩)
        obtain ⟨kid, c, g1, ⟨ao, cap, dvk, g2⟩, g3⟩ := g.1
        exact ⟨kid, c, by rw [HIL.out ()]; exact g1, ⟨ao, cap, dvk, (hB1.block _ (lt_of_heap g2)).trans g2⟩, g3⟩)
      have he1 : w1.heap[eb]? = some (.cells #[.string nm, .int .i64 nd] 59 (0, 0)) := HS1.out.2.1.heap HE.out.1 HE.out.2.1
      have HE1 := Lib.hid he1
      have e0 := cell_of he1 0
      have e1 := cell_of he1 1
      simp only [List.getElem?_toArray, List.getElem?_cons_zero, List.getElem?_cons_succ] at e0 e1
      have n0 := cell_of HN1.out.b 0
      have n1 := cell_of HN1.out.b 1
      simp only [List.getElem?_toArray, List.getElem?_cons_zero, List.getElem?_cons_succ] at n0 n1
      clear hB1 he1 HN HST HI
      cases hhas : hasI l kx
      · obtain ⟨aod, capd, rfl, -⟩ := HN1.out.dr.form
        have hlf := leaf_any nb lv aod ks.length capd w1 HN1.out.b
        unfold ptrV at hlf
        have HLF := Lib.hid hlf
        have HHAS := Lib.hid (fun (_ : Unit) => hhas)
        clear hlf hhas
        go_wp2_with fail
        refine HLF.out.mono ?_
        clear HLF
        rintro _ w2 ⟨rfl, rfl⟩
        by_cases hk0 : ks = []
        · subst hk0
          simp only [List.length_nil, decide_true]
          have HL2 := Lib.hid (show l.length ≤ 2 from by
            rcases HHOT.out with g | ⟨⟨kid, c, g, -⟩, -⟩
            · exact g.1
            · simp at g)
          have HNE := Lib.hid (fun (_ : Unit) => show nb ≠ eb from fun e => by
            have h1 := HE1.out
            rw [← e, HN1.out.b] at h1
            simp at h1)
          have HLN := Lib.hid (show lv.ownBlock ≠ some nb ∧ lv.ownBlock ≠ some eb from ⟨fun e => by
            obtain ⟨cur, hc⟩ := HN1.out.lr.lt e
            rw [HN1.out.b] at hc
            simp at hc, fun e => by
            obtain ⟨cur, hc⟩ := HN1.out.lr.lt e
            rw [HE1.out] at hc
            simp at hc⟩)
          go_wp2_with fail
          refine wp_region_plan (fun w5 : World => w5.heap[nb]? = some (.cells #[lv, .slice aod 0 capd] 119 (0, 0)) ∧ w5.heap[eb]? = some (.cells #[.string nm, .int .i64 nd] 59 (0, 0))) 89 [([0, 1, 5, 6, 7, 2, 8, 3, 4], [9], true), ([], [10], true), ([11, 12], [13], false)] (by kernel_rfl) (by kernel_rfl) ?_
          apply wpStages_keep
          case hT => exact ⟨HN1.out.b, HE1.out⟩
          case hn => exact Nat.le_refl _
          case hq =>
            rintro w5 ⟨t0, t1⟩
            have q0 := cell_of t0 0
            have q1 := cell_of t1 0
            have q2 := cell_of t1 1
            simp only [List.getElem?_toArray, List.getElem?_cons_zero, List.getElem?_cons_succ] at q0 q1 q2
            clear t0 t1
            simp only [picked, List.filterMap_cons, List.filterMap_nil, List.getElem?_cons_zero, List.getElem?_cons_succ]
            repeat still_step
            exact wpStill_nil rfl
          simp only [picked, List.filterMap_cons, List.filterMap_nil, List.getElem?_cons_zero, List.getElem?_cons_succ]
          go_wp2_with fail
          have HFA := Lib.hid (show Frame [] w1 ((w1.alloc (.cells #[.string kx, .string nm, .int .i64 nd] 125)).drew) from ((Frame.refl [] w1).alloc _).drew)
          have HGB := Lib.hid (show ((w1.alloc (.cells #[.string kx, .string nm, .int .i64 nd] 125)).drew).heap[w1.heap.size]? = some (.cells (Itm.cells ⟨kx, nm, nd⟩).toArray 125 (0, 0)) from heap_alloc_new w1 _)
          generalize (w1.alloc (.cells #[.string kx, .string nm, .int .i64 nd] 125)).drew = wA at *
          have HTA := Lib.hid (show wA.heap[nb]? = some (.cells #[lv, .slice aod 0 capd] 119 (0, 0)) ∧ wA.heap[eb]? = some (.cells #[.string nm, .int .i64 nd] 59 (0, 0)) from ⟨HFA.out.heap HN1.out.b (by simp), HFA.out.heap HE1.out (by simp)⟩)
          refine OnlyNormal.mk ⟨HTA.out, ?_⟩
          apply wpStages_seqkeep
          simp only [picked, List.filterMap_cons, List.filterMap_nil, List.getElem?_cons_zero, List.getElem?_cons_succ]
          have hrow : HeadRow wA 125 3 lv l.length (flI (l.take i) ++ flI (l.drop i)) := by
            rw [← flI_append, List.take_append_drop]
            exact HN1.out.lr.frame HFA.out (by simp)
          have hins := insertI_head lv (flI (l.take i)) (flI (l.drop i)) (Itm.cells ⟨kx, nm, nd⟩) i l.length w1.heap.size wA (by rw [flI_len, List.length_take, Nat.min_eq_left hi3]) hrow hi3 HGB.out rfl (fun u hu => flI_one [⟨kx, nm, nd⟩] u (by simpa [flI] using hu)) (flI_one _) (fun e => by obtain ⟨cur, hc⟩ := HN1.out.lr.lt e; have := lt_of_heap hc; omega) (by omega)
          have HINS := Lib.hid hins
          clear hrow hins
          go_wp2_with fail
          refine HINS.out.mono ?_
          clear HINS
          rintro _ w6 ⟨v6, rfl, ho6, hF6, hn6⟩
          obtain ⟨ao6, cap6, rfl⟩ := ownsForm ho6
          have HT6 := Lib.hid (show w6.heap[nb]? = some (.cells #[lv, .slice aod 0 capd] 119 (0, 0)) ∧ w6.heap[eb]? = some (.cells #[.string nm, .int .i64 nd] 59 (0, 0)) from
            ⟨hF6.heap HTA.out.1 (fun hm => HLN.out.1 (by simpa using hm)), hF6.heap HTA.out.2 (fun hm => HLN.out.2 (by simpa using hm))⟩)
          have H6 := Lib.hid (And.intro ho6 (And.intro hF6 hn6))
          clear ho6 hF6 hn6
          go_wp2_with fail
          refine OnlyNormal.mk ⟨HT6.out, ?_⟩
          apply wpStages_last
          case hT => exact HT6.out
          case hn => exact Nat.le_refl _
          case hq =>
            rintro w5 -
            simp only [picked, List.filterMap_cons, List.filterMap_nil, List.getElem?_cons_zero, List.getElem?_cons_succ]
            repeat still_step
            exact wpStill_nil rfl
          simp only [picked, List.filterMap_cons, List.filterMap_nil, List.getElem?_cons_zero, List.getElem?_cons_succ]
          have z6 := frozen_of HT6.out.1
          have y6 := cell_of HT6.out.1 0
          go_wp2_with fail
          clear z6 y6
          refine OnlyNormal.mk ?_
          go_wp2_with fail
          go_end0
          have hfn : Frame [nb] w6 (w6.setCell ⟨nb, 0, none⟩ (.slice ao6 (l.length + 1) cap6)) := (Frame.refl [nb] w6).set (p := ⟨nb, 0, none⟩) (.inl (by simp)) _
          have hall : Frame (nb :: lv.ownBlock.toList) w1 (w6.setCell ⟨nb, 0, none⟩ (.slice ao6 (l.length + 1) cap6)) := ((HFA.out.mono (by simp)).trans (H6.out.2.1.mono (fun k hk => List.mem_cons_of_mem _ hk))).trans (hfn.mono (by simp))
          have hlen : (l.take i ++ (⟨kx, nm, nd⟩ : Itm) :: l.drop i).length = l.length + 1 := by rw [List.length_append, List.length_cons, List.length_take, List.length_drop]; omega
          have hk6 : ∀ k, (Value.slice ao6 (l.length + 1) cap6).ownBlock = some k → k ∉ [nb] := fun k hk hm => by
            obtain ⟨cur, hc⟩ := owns_lt H6.out.1 hk
            rw [List.mem_singleton.1 hm, HT6.out.1] at hc
            simp at hc
          have hrow : HeadRow (w6.setCell ⟨nb, 0, none⟩ (.slice ao6 (l.length + 1) cap6)) 125 3 (.slice ao6 (l.length + 1) cap6) (l.take i ++ (⟨kx, nm, nd⟩ : Itm) :: l.drop i).length (flI (l.take i ++ (⟨kx, nm, nd⟩ : Itm) :: l.drop i)) := by
            rw [hlen, flI_append, flI_cons, ← List.append_assoc]
            exact .inl (owns_frame H6.out.1 hfn hk6)
          obtain ⟨X', hx1, hx2, hx3⟩ := HN1.out.items (l' := l.take i ++ (⟨kx, nm, nd⟩ : Itm) :: l.drop i) (L' := l.take i ++ (⟨kx, nm, nd⟩ : Itm) :: l.drop i) hall (fun k hk => by
              rcases List.mem_cons.1 hk with e | e
              · exact .inl e
              · exact .inr (by simpa using e)) (heap_set_same 0 _ HT6.out.1) hrow (by rw [hlen]; have := HL2.out; omega) (fun k hk => (H6.out.2.2 k hk).imp id (fun g => by have := HFA.out.size; omega)) (.inl ⟨rfl, rfl⟩)
          have hLf : Lf = l := by
            rcases HN1.out.shape with ⟨-, h2⟩ | ⟨h1, -⟩
            · exact h2
            · simp at h1
          obtain ⟨il1, il2⟩ := ins_list HS1.out.2.2.2.2.2.2 (HHAS.out ())
          rw [← HIL.out ()] at il1 il2
          have hin : InsRel Lf ⟨kx, nm, nd⟩ (l.take i ++ (⟨kx, nm, nd⟩ : Itm) :: l.drop i) := .inr ⟨l.take i, l.drop i, by rw [hLf, List.take_append_drop], rfl, il1, il2⟩
          have hd : NodeAt (h + 1) ((w6.setCell ⟨nb, 0, none⟩ (.slice ao6 (l.length + 1) cap6)).drew) nb (l.take i ++ (⟨kx, nm, nd⟩ : Itm) :: l.drop i) X' := NodeAt.frame ((Frame.refl [] _).drew) (h + 1) _ _ _ ⟨_, _, _, _, hx1⟩ (by simp)
          have hpd := put_done HS1.out.1 HS1.out.2.1 HS1.out.2.2.1 HS1.out.2.2.2.1 HS1.out.2.2.2.2.1 HS1.out.2.2.2.2.2.1 hx3.drew hd hx2 hin
          first | exact Ret.of rfl (put_base HFW.out hpd) | exact Ret.of rfl (put_base HFW.out (put_done HS1.out.1 HS1.out.2.1 HS1.out.2.2.1 HS1.out.2.2.2.1 HS1.out.2.2.2.2.1 HS1.out.2.2.2.2.2.1 hx3 ⟨_, _, _, _, hx1⟩ hx2 hin))
        · have hk1 : ¬ ks.length = 0 := fun e => hk0 (List.eq_nil_of_length_eq_zero e)
          simp only [decide_eq_false hk1]
          have hks : ks.length = l.length + 1 := by
            rcases HN1.out.shape with ⟨h1, -⟩ | ⟨h1, -⟩
            · exact absurd h1 hk0
            · exact h1
          obtain ⟨ks1, ⟨cb, Lc, Xc⟩, ks2, rfl, hk1i⟩ := list_split ks i (by omega)
          have hkid : (ks1 ++ (cb, Lc, Xc) :: ks2)[i]? = some (cb, Lc, Xc) := by rw [List.getElem?_append_right (by omega), hk1i, Nat.sub_self]; rfl
          obtain ⟨h', rfl⟩ : ∃ h', h = h' + 1 := by
            cases h with
            | zero => exact (HN1.out.kids (cb, Lc, Xc) (by simp)).elim
            | succ h' => exact ⟨h', rfl⟩
          obtain ⟨lvc, dvc, lc, kc, hc⟩ := HN1.out.kids (cb, Lc, Xc) (by simp)
          obtain ⟨aolc, caplc, rfl, -⟩ := hc.lr.form
          obtain ⟨gd, cd, curd, he, hcd, hgd, hcurd⟩ := HN1.out.dr.cells (by rw [List.length_map]; omega)
          cases he
          have hpx : curd[i]? = some (.pointer (some ⟨cb, 0, none⟩)) := hcurd i _ (by rw [List.getElem?_map, hkid]; rfl)
          have d1 := cell_of hgd i
          rw [hpx] at d1
          have k0 := cell_of hc.b 0
          simp only [List.getElem?_toArray, List.getElem?_cons_zero] at k0
          have HC := Lib.hid hc
          have HKI := Lib.hid (fun (_ : Unit) => And.intro hk1i (And.intro hks hkid))
          have hlc3 := hc.l3
          have hik : (i : Int) < ((ks1 ++ (cb, Lc, Xc) :: ks2).length : Int) := by omega
          obtain ⟨nk, hnk⟩ : ∃ nk, nk = (ks1 ++ (cb, Lc, Xc) :: ks2).length := ⟨_, rfl⟩
          rw [← hnk] at hik n1 HN1 hcd
          have hnk4 : (nk : Int) ≤ 4 := by omega
          clear hk0 hk1 hkid hk1i hgd hcurd hpx hnk hks
          have HGD := Lib.hid (fun (_ : Unit) => hcd)
          clear hcd hc
          by_cases hf3 : lc.length = 3
          · have hf3' : (lc.length : Int) = 3 := by omega
            have hf3b : ((lc.length : Int) == 3) = true := by simpa using hf3'
            have HF3 := Lib.hid (fun (_ : Unit) => hf3)
            have HL2 := Lib.hid (show l.length ≤ 2 ∧ 2 * (h' + 1) + 2 ≤ gk from by
              rcases HHOT.out with g | ⟨⟨kid, c, g1, g2, g3⟩, -⟩
              · exact g
              · rw [(HKI.out ()).2.2] at g1
                cases g1
                have := g2.inj HC.out.cnt
                omega)
            obtain ⟨a, b, c, rfl⟩ := len_three lc hf3
            have hsp := split_any h' nb i w1 lv _ l ks1 ks2 Lf Xf cb Lc Xc _ dvc a b c kc HN1.out (HKI.out ()).1 HL2.out.1 HC.out
            unfold ptrV at hsp
            have HSP := Lib.hid hsp
            clear hsp hf3
            simp only [List.length_cons, List.length_nil, Nat.zero_add, Nat.reduceAdd] at *
            go_wp2_with fail
            refine HSP.out.mono ?_
            clear HSP
            rintro _ w2 ⟨rfl, lv', dv', yb, L1, L3, X', X1, X3, hn', hc1, hc2, hF, hFr⟩
            have HPI := Lib.hid (show PutI wb w2 (h0 + 1 + 1) tb X L kx (2 * (h' + 1) + 1) nb from by
              refine ⟨h' + 1, A, B, Lf, X', lv', dv', _, _, hn', HS1.out.1.moved hF hFr, HS1.out.2.1.then' hF HS1.out.2.2.1, HS1.out.2.2.1.trans hFr HS1.out.2.1.size, HS1.out.2.2.2.1, HS1.out.2.2.2.2.1, HS1.out.2.2.2.2.2.1, .inr ⟨?_, Nat.le_refl _⟩⟩
              have hla := low_after (l := l) (k := kx) (b := b)
              rw [← HIL.out ()] at hla
              have hk1i := (HKI.out ()).1
              rcases hla with e | e
              · exact ⟨_, 1, by rw [e, List.getElem?_append_right (by omega), hk1i, Nat.sub_self]; rfl, hc1, by decide⟩
              · exact ⟨_, 1, by rw [e, List.getElem?_append_right (by omega), hk1i, Nat.add_sub_cancel_left]; rfl, hc2, by decide⟩)
            clear hn' hc1 hc2 hF hFr
            go_wp2_with fail
            go_roundg (2 * (h' + 1) + 1)
            case measure => have := HL2.out.2; omega
            case rel => exact ⟨nb, rfl, HPI⟩
          · have hf3' : ¬ (lc.length : Int) = 3 := by omega
            have hf3b : ((lc.length : Int) == 3) = false := by simpa using hf3'
            have HPI := Lib.hid (show PutI wb w1 (h0 + 1 + 1) tb X L kx (2 * h' + 2) cb from by
              have hk1i := (HKI.out ()).1
              have hks := (HKI.out ()).2.1
              have hLf : Lf = preW (ks1.map (·.2.1)) (l.take i) ++ Lc ++ postW (l.drop i) (ks2.map (·.2.1)) := by
                rcases HN1.out.shape with ⟨h1, -⟩ | ⟨-, h1⟩
                · simp at h1
                · rw [h1, List.map_append, List.map_cons, weave_mid Lc (ks1.map (·.2.1)) (ks2.map (·.2.1)) l (by simp at hks ⊢; omega), List.length_map, hk1i]
              have hrf : RisI Lf := by
                have h1 := HRIS.out
                rw [← HS1.out.2.2.2.1] at h1
                exact h1.app.1.app.2.1
              rw [hLf] at hrf
              obtain ⟨il1, il2⟩ := ins_list HS1.out.2.2.2.2.2.2 (HHAS.out ())
              rw [← HIL.out ()] at il1 il2
              refine ⟨h', A ++ preW (ks1.map (·.2.1)) (l.take i), postW (l.drop i) (ks2.map (·.2.1)) ++ B, Lc, Xc, _, dvc, lc, kc, HC.out, HS1.out.1.down HN1.out hk1i, HS1.out.2.1, fun k hk => HS1.out.2.2.1 k (HN1.out.own.2.2.2 (cb, Lc, Xc) (by simp) k hk), ?_, fun p hp => ?_, fun p hp => ?_, .inl ⟨by omega, Nat.le_refl _⟩⟩
              · rw [← HS1.out.2.2.2.1, hLf]
                simp
              · rcases List.mem_append.1 hp with hp | hp
                · exact HS1.out.2.2.2.2.1 p hp
                · exact preW_less _ _ (by rw [List.length_map, List.length_take]; omega) hrf.app.1.app.1 il1 p hp
              · rcases List.mem_append.1 hp with hp | hp
                · exact postW_less _ _ hrf.app.2.1 (fun z hz => il2 z (List.mem_of_getElem? hz)) p hp
                · exact HS1.out.2.2.2.2.2.1 p hp)
            have HGK := Lib.hid (fun (_ : Unit) => show 2 * h' + 2 < gk from by
              rcases HHOT.out with g | g
              · omega
              · omega)
            go_wp2_with fail
            go_roundg (2 * h' + 2)
            case measure => exact HGK.out ()
            case rel => exact ⟨cb, rfl, HPI⟩
      · have HHAS := Lib.hid (fun (_ : Unit) => hhas)
        clear hhas
        obtain ⟨y, hy0, hyk⟩ := hasI_at (HHAS.out ())
        have hy : l[i]? = some y := by rw [HIL.out ()]; exact hy0
        have hil := (List.getElem?_eq_some_iff.1 hy).1
        obtain ⟨g, cap, cur, rfl, hcap, hg, -⟩ := HN1.out.lr.cells (by rw [flI_len]; omega)
        have hgn : g ≠ nb := fun e => by
          rw [e, HN1.out.b] at hg
          simp at hg
        have HGX := Lib.hid (And.intro hg hgn)
        have HY := Lib.hid (And.intro hy hyk)
        have hil' : (i : Int) < (l.length : Int) := by omega
        clear hy0 hy hyk hg hgn
        go_wp2_with fail
        refine wp_region_plan (fun w5 => Below w1.heap.size w1 w5) 89 [([0, 4, 5, 1, 2, 3, 6, 7], [8], false)] (by kernel_rfl) (by kernel_rfl) ?_
        apply wpStages_last
        case hT => exact (Below.refl _ _).drew
        case hn => exact Nat.le_refl _
        case hq =>
          intro w5 hT
          have q0 := cell_of ((hT.block _ (lt_of_heap HN1.out.b)).trans HN1.out.b) 0
          have q1 := cell_of ((hT.block _ (lt_of_heap HE1.out)).trans HE1.out) 0
          have q2 := cell_of ((hT.block _ (lt_of_heap HE1.out)).trans HE1.out) 1
          simp only [List.getElem?_toArray, List.getElem?_cons_zero, List.getElem?_cons_succ] at q0 q1 q2
          clear hT
          simp only [picked, List.filterMap_cons, List.filterMap_nil, List.getElem?_cons_zero, List.getElem?_cons_succ]
          repeat still_step
          exact wpStill_nil rfl
        simp only [picked, List.filterMap_cons, List.filterMap_nil, List.getElem?_cons_zero, List.getElem?_cons_succ]
        have zg := frozen_of HGX.out.1
        have HC1 := Lib.hid (HN1.out.lr.setCell (i * 3 + 1) (.string nm) (by rw [flI_len]; omega))
        have HC2 := Lib.hid (HC1.out.setCell (i * 3 + 2) (.int .i64 nd) (by rw [List.length_set, flI_len]; omega))
        have hyg : ∀ j, j < 3 → ∃ u, w1.cell? ⟨g, i * 3 + j, none⟩ = some u := fun j hj => by
          obtain ⟨g', cap', cur', he, -, hg', hcur⟩ := HN1.out.lr.cells (by rw [flI_len]; omega)
          cases he
          obtain ⟨u, hu⟩ : ∃ u, (flI l)[i * 3 + j]? = some u := ⟨_, List.getElem?_eq_getElem (by rw [flI_len]; omega)⟩
          exact ⟨u, by rw [cell_of hg']; exact hcur _ _ hu⟩
        obtain ⟨u1, hu1⟩ := hyg 1 (by decide)
        obtain ⟨u2, hu2⟩ := hyg 2 (by decide)
        clear hyg
        go_wp2_with fail
        clear zg hu1 hu2
        refine OnlyNormal.mk ?_
        go_wp2_with fail
        go_end0
        have hfs : Frame [g] w1 ((w1.setCell ⟨g, i * 3 + 1, none⟩ (.string nm)).setCell ⟨g, i * 3 + 2, none⟩ (.int .i64 nd)) := ((Frame.refl [g] w1).set (p := ⟨g, i * 3 + 1, none⟩) (.inl (by simp)) _).set (p := ⟨g, i * 3 + 2, none⟩) (.inl (by simp)) _
        have hrow : HeadRow ((w1.setCell ⟨g, i * 3 + 1, none⟩ (.string nm)).setCell ⟨g, i * 3 + 2, none⟩ (.int .i64 nd)) 125 3 (.slice (some ⟨g, 0, none⟩) l.length cap) (l.set i ⟨y.key, nm, nd⟩).length (flI (l.set i ⟨y.key, nm, nd⟩)) := by
          rw [← flI_set l i y HY.out.1, List.length_set]
          exact HC2.out
        have hshape : ∃ Lf', ((ks = [] ∧ Lf' = l.set i ⟨y.key, nm, nd⟩) ∨ (ks.length = (l.set i ⟨y.key, nm, nd⟩).length + 1 ∧ Lf' = weave (ks.map (·.2.1)) (l.set i ⟨y.key, nm, nd⟩))) ∧ InsRel Lf ⟨kx, nm, nd⟩ Lf' := by
          have hyk := HY.out.2
          rcases HN1.out.shape with ⟨h1, h2⟩ | ⟨h1, h2⟩
          · obtain ⟨g1, g2⟩ := list_at l i y HY.out.1
            refine ⟨_, .inl ⟨h1, rfl⟩, .inl ⟨l.take i, l.drop (i + 1), y, h2.trans g1, hyk, ?_⟩⟩
            rw [g2, hyk]
          · obtain ⟨P, S, g1, g2⟩ := weave_at (ks.map (·.2.1)) l i y (by rw [List.length_map]; exact h1) HY.out.1
            refine ⟨_, .inr ⟨by rw [List.length_set]; exact h1, rfl⟩, .inl ⟨P, S, y, h2.trans g1, hyk, ?_⟩⟩
            rw [g2, hyk]
        obtain ⟨Lf', hs1, hs2⟩ := hshape
        obtain ⟨X', hx1, hx2, hx3⟩ := HN1.out.items hfs (fun k hk => .inr (by rw [List.mem_singleton.1 hk]; rfl)) ((heap_set_other _ _ _ (show nb ≠ g from fun e => HGX.out.2 e.symm)).trans ((heap_set_other _ _ _ (show nb ≠ g from fun e => HGX.out.2 e.symm)).trans HN1.out.b)) hrow (by rw [List.length_set]; exact HN1.out.l3) (fun k hk => .inl hk) hs1
        have hd : NodeAt (h + 1) (((w1.setCell ⟨g, i * 3 + 1, none⟩ (.string nm)).setCell ⟨g, i * 3 + 2, none⟩ (.int .i64 nd)).drew) nb Lf' X' := NodeAt.frame ((Frame.refl [] _).drew) (h + 1) _ _ _ ⟨_, _, _, _, hx1⟩ (by simp)
        have hpd := put_done HS1.out.1 HS1.out.2.1 HS1.out.2.2.1 HS1.out.2.2.2.1 HS1.out.2.2.2.2.1 HS1.out.2.2.2.2.2.1 hx3.drew hd hx2 hs2
        exact Ret.of rfl (put_base HFW.out hpd)
  · have hfull' : ¬ (l0.length : Int) = 3 := by omega
    have hfb : ((l0.length : Int) == 3) = false := by simpa using hfull'
    go_wp2_with fail
    generalize hwb : w.alloc (.cells #[.string nm, .int .i64 nd] 59) = wb at *
    generalize heb : w.heap.size = eb at *
    have HI := Lib.hid (show PutI wb wb (h0 + 1) tb X L kx (2 * h0 + 2) rb from
      ⟨h0, [], [], L, Xr, _, dv0, l0, ks0, HN0.out, fun w' L' X' f1 f2 f3 => ⟨tb :: X', ⟨rb, X', f1.heap HT.out HXX.out.2.1, by simpa using f2, rfl, fun hm => (f3 _ hm).elim HXX.out.2.1 (fun g => by have := lt_of_heap HT.out; omega)⟩, fun k hk => by
        rw [HXX.out.1]
        rcases List.mem_cons.1 hk with rfl | hk
        · exact .inl (by simp)
        · exact (f3 k hk).imp (fun e => by simp [e]) id⟩, Frame.refl _ _, fun k hk => .inl (by rw [HXX.out.1]; simp [hk]), by simp, by simp, by simp, .inl ⟨by omega, Nat.le_refl _⟩⟩)
    skip
    go_loopg [6] (2 * h0 + 2) (fun k n wr => ∃ nb : Nat, n = .pointer (some ⟨nb, 0, none⟩) ∧ Hid (PutI wb wr (h0 + 1) tb X L kx k nb))
    case atStart => exact ⟨rb, rfl, HI⟩
    case round =>
      clear HI
      obtain ⟨nb, rfl, HI⟩ := hrel
      obtain ⟨h, A, B, Lf, Xf, lv, dv, l, ks, hn, hw, hfr, hfx, hL, hA, hB, hhot⟩ := HI.out
      have hrf : RisI Lf := by
        have h1 := HRIS.out
        rw [← hL] at h1
        exact h1.app.1.app.2.1
      have hrl : RisI l := hn.ris hrf
      have hfd := find_any nb lv dv l kx wr hn.b hn.lr.items (by have := hn.l3; omega) hrl
      unfold ptrV at hfd
      have HFD := Lib.hid hfd
      have HN := Lib.hid hn
      have HST := Lib.hid (And.intro hw (And.intro hfr (And.intro hfx (And.intro hL (And.intro hA (And.intro hB (And.intro hhot hrl)))))))
      have hi3 := lowI_le l kx
      have hl3 := hn.l3
      have hi0 : (0 : Int) ≤ (lowI l kx : Int) := by omega
      clear hfd hn hw hfr hfx hL hA hB hhot hrf hrl
      obtain ⟨i, hi⟩ : ∃ i, i = lowI l kx := ⟨_, rfl⟩
      rw [← hi] at HFD hi3 hi0
      have HIL := Lib.hid (fun (_ : Unit) => hi)
      clear hi
      go_wp2_with fail
      refine HFD.out.mono ?_
      clear HFD
      rintro _ w1 ⟨rfl, hB1⟩
      have HN1 := Lib.hid (HN.out.frame (P' := fun p q r => NodeAt h w1 p q r) (Frame.of_below [] hB1) (by simp) (fun k hk hp => NodeAt.frame (Frame.of_below [] hB1) h _ _ _ hp (by simp)))
      have HS1 := Lib.hid (show Wand (h + 1) wb w1 (h0 + 1) tb nb X Xf A B ∧ Frame X wb w1 ∧ Fresh wb X Xf ∧ A ++ Lf ++ B = L ∧ (∀ p ∈ A, lessK p.key kx) ∧ (∀ p ∈ B, lessK kx p.key) ∧ RisI l from
        ⟨HST.out.1.moved (Frame.of_below _ hB1) (Fresh.refl _ _), HST.out.2.1.trans (Frame.of_below _ hB1), HST.out.2.2.1, HST.out.2.2.2.1, HST.out.2.2.2.2.1, HST.out.2.2.2.2.2.1, HST.out.2.2.2.2.2.2.2⟩)
      have HHOT := Lib.hid (show (l.length ≤ 2 ∧ 2 * h + 2 ≤ gk) ∨ ((∃ (kid : Kid) (c : Nat), ks[i]? = some kid ∧ CntAt w1 kid.1 c ∧ c ≤ 2) ∧ 2 * h + 1 ≤ gk) from by
        refine HST.out.2.2.2.2.2.2.1.imp id (fun g => ⟨?_, g.2⟩)
        obtain ⟨kid, c, g1, ⟨ao, cap, dvk, g2⟩, g3⟩ := g.1
        exact ⟨kid, c, by rw [HIL.out ()]; exact g1, ⟨ao, cap, dvk, (hB1.block _ (lt_of_heap g2)).trans g2⟩, g3⟩)
      have he1 : w1.heap[eb]? = some (.cells #[.string nm, .int .i64 nd] 59 (0, 0)) := HS1.out.2.1.heap HE.out.1 HE.out.2.1
      have HE1 := Lib.hid he1
      have e0 := cell_of he1 0
      have e1 := cell_of he1 1
      simp only [List.getElem?_toArray, List.getElem?_cons_zero, List.getElem?_cons_succ] at e0 e1
      have n0 := cell_of HN1.out.b 0
      have n1 := cell_of HN1.out.b 1
      simp only [List.getElem?_toArray, List.getElem?_cons_zero, List.getElem?_cons_succ] at n0 n1
      clear hB1 he1 HN HST HI
      cases hhas : hasI l kx
      · obtain ⟨aod, capd, rfl, -⟩ := HN1.out.dr.form
        have hlf := leaf_any nb lv aod ks.length capd w1 HN1.out.b
        unfold ptrV at hlf
        have HLF := Lib.hid hlf
        have HHAS := Lib.hid (fun (_ : Unit) => hhas)
        clear hlf hhas
        go_wp2_with fail
        refine HLF.out.mono ?_
        clear HLF
        rintro _ w2 ⟨rfl, rfl⟩
        by_cases hk0 : ks = []
        · subst hk0
          simp only [List.length_nil, decide_true]
          have HL2 := Lib.hid (show l.length ≤ 2 from by
            rcases HHOT.out with g | ⟨⟨kid, c, g, -⟩, -⟩
            · exact g.1
            · simp at g)
          have HNE := Lib.hid (fun (_ : Unit) => show nb ≠ eb from fun e => by
            have h1 := HE1.out
            rw [← e, HN1.out.b] at h1
            simp at h1)
          have HLN := Lib.hid (show lv.ownBlock ≠ some nb ∧ lv.ownBlock ≠ some eb from ⟨fun e => by
            obtain ⟨cur, hc⟩ := HN1.out.lr.lt e
            rw [HN1.out.b] at hc
            simp at hc, fun e => by
            obtain ⟨cur, hc⟩ := HN1.out.lr.lt e
            rw [HE1.out] at hc
            simp at hc⟩)
          go_wp2_with fail
          refine wp_region_plan (fun w5 : World => w5.heap[nb]? = some (.cells #[lv, .slice aod 0 capd] 119 (0, 0)) ∧ w5.heap[eb]? = some (.cells #[.string nm, .int .i64 nd] 59 (0, 0))) 89 [([0, 1, 5, 6, 7, 2, 8, 3, 4], [9], true), ([], [10], true), ([11, 12], [13], false)] (by kernel_rfl) (by kernel_rfl) ?_
          apply wpStages_keep
          case hT => exact ⟨HN1.out.b, HE1.out⟩
          case hn => exact Nat.le_refl _
          case hq =>
            rintro w5 ⟨t0, t1⟩
            have q0 := cell_of t0 0
            have q1 := cell_of t1 0
            have q2 := cell_of t1 1
            simp only [List.getElem?_toArray, List.getElem?_cons_zero, List.getElem?_cons_succ] at q0 q1 q2
            clear t0 t1
            simp only [picked, List.filterMap_cons, List.filterMap_nil, List.getElem?_cons_zero, List.getElem?_cons_succ]
            repeat still_step
            exact wpStill_nil rfl
          simp only [picked, List.filterMap_cons, List.filterMap_nil, List.getElem?_cons_zero, List.getElem?_cons_succ]
          go_wp2_with fail
          have HFA := Lib.hid (show Frame [] w1 ((w1.alloc (.cells #[.string kx, .string nm, .int .i64 nd] 125)).drew) from ((Frame.refl [] w1).alloc _).drew)
          have HGB := Lib.hid (show ((w1.alloc (.cells #[.string kx, .string nm, .int .i64 nd] 125)).drew).heap[w1.heap.size]? = some (.cells (Itm.cells ⟨kx, nm, nd⟩).toArray 125 (0, 0)) from heap_alloc_new w1 _)
          generalize (w1.alloc (.cells #[.string kx, .string nm, .int .i64 nd] 125)).drew = wA at *
          have HTA := Lib.hid (show wA.heap[nb]? = some (.cells #[lv, .slice aod 0 capd] 119 (0, 0)) ∧ wA.heap[eb]? = some (.cells #[.string nm, .int .i64 nd] 59 (0, 0)) from ⟨HFA.out.heap HN1.out.b (by simp), HFA.out.heap HE1.out (by simp)⟩)
          refine OnlyNormal.mk ⟨HTA.out, ?_⟩
          apply wpStages_seqkeep
          simp only [picked, List.filterMap_cons, List.filterMap_nil, List.getElem?_cons_zero, List.getElem?_cons_succ]
          have hrow : HeadRow wA 125 3 lv l.length (flI (l.take i) ++ flI (l.drop i)) := by
            rw [← flI_append, List.take_append_drop]
            exact HN1.out.lr.frame HFA.out (by simp)
          have hins := insertI_head lv (flI (l.take i)) (flI (l.drop i)) (Itm.cells ⟨kx, nm, nd⟩) i l.length w1.heap.size wA (by rw [flI_len, List.length_take, Nat.min_eq_left hi3]) hrow hi3 HGB.out rfl (fun u hu => flI_one [⟨kx, nm, nd⟩] u (by simpa [flI] using hu)) (flI_one _) (fun e => by obtain ⟨cur, hc⟩ := HN1.out.lr.lt e; have := lt_of_heap hc; omega) (by omega)
          have HINS := Lib.hid hins
          clear hrow hins
          go_wp2_with fail
          refine HINS.out.mono ?_
          clear HINS
          rintro _ w6 ⟨v6, rfl, ho6, hF6, hn6⟩
          obtain ⟨ao6, cap6, rfl⟩ := ownsForm ho6
          have HT6 := Lib.hid (show w6.heap[nb]? = some (.cells #[lv, .slice aod 0 capd] 119 (0, 0)) ∧ w6.heap[eb]? = some (.cells #[.string nm, .int .i64 nd] 59 (0, 0)) from
            ⟨hF6.heap HTA.out.1 (fun hm => HLN.out.1 (by simpa using hm)), hF6.heap HTA.out.2 (fun hm => HLN.out.2 (by simpa using hm))⟩)
          have H6 := Lib.hid (And.intro ho6 (And.intro hF6 hn6))
          clear ho6 hF6 hn6
          go_wp2_with fail
          refine OnlyNormal.mk ⟨HT6.out, ?_⟩
          apply wpStages_last
          case hT => exact HT6.out
          case hn => exact Nat.le_refl _
          case hq =>
            rintro w5 -
            simp only [picked, List.filterMap_cons, List.filterMap_nil, List.getElem?_cons_zero, List.getElem?_cons_succ]
            repeat still_step
            exact wpStill_nil rfl
          simp only [picked, List.filterMap_cons, List.filterMap_nil, List.getElem?_cons_zero, List.getElem?_cons_succ]
          have z6 := frozen_of HT6.out.1
          have y6 := cell_of HT6.out.1 0
          go_wp2_with fail
          clear z6 y6
          refine OnlyNormal.mk ?_
          go_wp2_with fail
          go_end0
          have hfn : Frame [nb] w6 (w6.setCell ⟨nb, 0, none⟩ (.slice ao6 (l.length + 1) cap6)) := (Frame.refl [nb] w6).set (p := ⟨nb, 0, none⟩) (.inl (by simp)) _
          have hall : Frame (nb :: lv.ownBlock.toList) w1 (w6.setCell ⟨nb, 0, none⟩ (.slice ao6 (l.length + 1) cap6)) := ((HFA.out.mono (by simp)).trans (H6.out.2.1.mono (fun k hk => List.mem_cons_of_mem _ hk))).trans (hfn.mono (by simp))
          have hlen : (l.take i ++ (⟨kx, nm, nd⟩ : Itm) :: l.drop i).length = l.length + 1 := by rw [List.length_append, List.length_cons, List.length_take, List.length_drop]; omega
          have hk6 : ∀ k, (Value.slice ao6 (l.length + 1) cap6).ownBlock = some k → k ∉ [nb] := fun k hk hm => by
            obtain ⟨cur, hc⟩ := owns_lt H6.out.1 hk
            rw [List.mem_singleton.1 hm, HT6.out.1] at hc
            simp at hc
          have hrow : HeadRow (w6.setCell ⟨nb, 0, none⟩ (.slice ao6 (l.length + 1) cap6)) 125 3 (.slice ao6 (l.length + 1) cap6) (l.take i ++ (⟨kx, nm, nd⟩ : Itm) :: l.drop i).length (flI (l.take i ++ (⟨kx, nm, nd⟩ : Itm) :: l.drop i)) := by
            rw [hlen, flI_append, flI_cons, ← List.append_assoc]
            exact .inl (owns_frame H6.out.1 hfn hk6)
          obtain ⟨X', hx1, hx2, hx3⟩ := HN1.out.items (l' := l.take i ++ (⟨kx, nm, nd⟩ : Itm) :: l.drop i) (L' := l.take i ++ (⟨kx, nm, nd⟩ : Itm) :: l.drop i) hall (fun k hk => by
              rcases List.mem_cons.1 hk with e | e
              · exact .inl e
              · exact .inr (by simpa using e)) (heap_set_same 0 _ HT6.out.1) hrow (by rw [hlen]; have := HL2.out; omega) (fun k hk => (H6.out.2.2 k hk).imp id (fun g => by have := HFA.out.size; omega)) (.inl ⟨rfl, rfl⟩)
          have hLf : Lf = l := by
            rcases HN1.out.shape with ⟨-, h2⟩ | ⟨h1, -⟩
            · exact h2
            · simp at h1
          obtain ⟨il1, il2⟩ := ins_list HS1.out.2.2.2.2.2.2 (HHAS.out ())
          rw [← HIL.out ()] at il1 il2
          have hin : InsRel Lf ⟨kx, nm, nd⟩ (l.take i ++ (⟨kx, nm, nd⟩ : Itm) :: l.drop i) := .inr ⟨l.take i, l.drop i, by rw [hLf, List.take_append_drop], rfl, il1, il2⟩
          have hd : NodeAt (h + 1) ((w6.setCell ⟨nb, 0, none⟩ (.slice ao6 (l.length + 1) cap6)).drew) nb (l.take i ++ (⟨kx, nm, nd⟩ : Itm) :: l.drop i) X' := NodeAt.frame ((Frame.refl [] _).drew) (h + 1) _ _ _ ⟨_, _, _, _, hx1⟩ (by simp)
          have hpd := put_done HS1.out.1 HS1.out.2.1 HS1.out.2.2.1 HS1.out.2.2.2.1 HS1.out.2.2.2.2.1 HS1.out.2.2.2.2.2.1 hx3.drew hd hx2 hin
          first | exact Ret.of rfl (put_base HFW.out hpd) | exact Ret.of rfl (put_base HFW.out (put_done HS1.out.1 HS1.out.2.1 HS1.out.2.2.1 HS1.out.2.2.2.1 HS1.out.2.2.2.2.1 HS1.out.2.2.2.2.2.1 hx3 ⟨_, _, _, _, hx1⟩ hx2 hin))
        · have hk1 : ¬ ks.length = 0 := fun e => hk0 (List.eq_nil_of_length_eq_zero e)
          simp only [decide_eq_false hk1]
          have hks : ks.length = l.length + 1 := by
            rcases HN1.out.shape with ⟨h1, -⟩ | ⟨h1, -⟩
            · exact absurd h1 hk0
            · exact h1
          obtain ⟨ks1, ⟨cb, Lc, Xc⟩, ks2, rfl, hk1i⟩ := list_split ks i (by omega)
          have hkid : (ks1 ++ (cb, Lc, Xc) :: ks2)[i]? = some (cb, Lc, Xc) := by rw [List.getElem?_append_right (by omega), hk1i, Nat.sub_self]; rfl
          obtain ⟨h', rfl⟩ : ∃ h', h = h' + 1 := by
            cases h with
            | zero => exact (HN1.out.kids (cb, Lc, Xc) (by simp)).elim
            | succ h' => exact ⟨h', rfl⟩
          obtain ⟨lvc, dvc, lc, kc, hc⟩ := HN1.out.kids (cb, Lc, Xc) (by simp)
          obtain ⟨aolc, caplc, rfl, -⟩ := hc.lr.form
          obtain ⟨gd, cd, curd, he, hcd, hgd, hcurd⟩ := HN1.out.dr.cells (by rw [List.length_map]; omega)
          cases he
          have hpx : curd[i]? = some (.pointer (some ⟨cb, 0, none⟩)) := hcurd i _ (by rw [List.getElem?_map, hkid]; rfl)
          have d1 := cell_of hgd i
          rw [hpx] at d1
          have k0 := cell_of hc.b 0
          simp only [List.getElem?_toArray, List.getElem?_cons_zero] at k0
          have HC := Lib.hid hc
          have HKI := Lib.hid (fun (_ : Unit) => And.intro hk1i (And.intro hks hkid))
          have hlc3 := hc.l3
          have hik : (i : Int) < ((ks1 ++ (cb, Lc, Xc) :: ks2).length : Int) := by omega
          obtain ⟨nk, hnk⟩ : ∃ nk, nk = (ks1 ++ (cb, Lc, Xc) :: ks2).length := ⟨_, rfl⟩
          rw [← hnk] at hik n1 HN1 hcd
          have hnk4 : (nk : Int) ≤ 4 := by omega
          clear hk0 hk1 hkid hk1i hgd hcurd hpx hnk hks
          have HGD := Lib.hid (fun (_ : Unit) => hcd)
          clear hcd hc
          by_cases hf3 : lc.length = 3
          · have hf3' : (lc.length : Int) = 3 := by omega
            have hf3b : ((lc.length : Int) == 3) = true := by simpa using hf3'
            have HF3 := Lib.hid (fun (_ : Unit) => hf3)
            have HL2 := Lib.hid (show l.length ≤ 2 ∧ 2 * (h' + 1) + 2 ≤ gk from by
              rcases HHOT.out with g | ⟨⟨kid, c, g1, g2, g3⟩, -⟩
              · exact g
              · rw [(HKI.out ()).2.2] at g1
                cases g1
                have := g2.inj HC.out.cnt
                omega)
            obtain ⟨a, b, c, rfl⟩ := len_three lc hf3
            have hsp := split_any h' nb i w1 lv _ l ks1 ks2 Lf Xf cb Lc Xc _ dvc a b c kc HN1.out (HKI.out ()).1 HL2.out.1 HC.out
            unfold ptrV at hsp
            have HSP := Lib.hid hsp
            clear hsp hf3
            simp only [List.length_cons, List.length_nil, Nat.zero_add, Nat.reduceAdd] at *
            go_wp2_with fail
            refine HSP.out.mono ?_
            clear HSP
            rintro _ w2 ⟨rfl, lv', dv', yb, L1, L3, X', X1, X3, hn', hc1, hc2, hF, hFr⟩
            have HPI := Lib.hid (show PutI wb w2 (h0 + 1) tb X L kx (2 * (h' + 1) + 1) nb from by
              refine ⟨h' + 1, A, B, Lf, X', lv', dv', _, _, hn', HS1.out.1.moved hF hFr, HS1.out.2.1.then' hF HS1.out.2.2.1, HS1.out.2.2.1.trans hFr HS1.out.2.1.size, HS1.out.2.2.2.1, HS1.out.2.2.2.2.1, HS1.out.2.2.2.2.2.1, .inr ⟨?_, Nat.le_refl _⟩⟩
              have hla := low_after (l := l) (k := kx) (b := b)
              rw [← HIL.out ()] at hla
              have hk1i := (HKI.out ()).1
              rcases hla with e | e
              · exact ⟨_, 1, by rw [e, List.getElem?_append_right (by omega), hk1i, Nat.sub_self]; rfl, hc1, by decide⟩
              · exact ⟨_, 1, by rw [e, List.getElem?_append_right (by omega), hk1i, Nat.add_sub_cancel_left]; rfl, hc2, by decide⟩)
            clear hn' hc1 hc2 hF hFr
            go_wp2_with fail
            go_roundg (2 * (h' + 1) + 1)
            case measure => have := HL2.out.2; omega
            case rel => exact ⟨nb, rfl, HPI⟩
          · have hf3' : ¬ (lc.length : Int) = 3 := by omega
            have hf3b : ((lc.length : Int) == 3) = false := by simpa using hf3'
            have HPI := Lib.hid (show PutI wb w1 (h0 + 1) tb X L kx (2 * h' + 2) cb from by
              have hk1i := (HKI.out ()).1
              have hks := (HKI.out ()).2.1
              have hLf : Lf = preW (ks1.map (·.2.1)) (l.take i) ++ Lc ++ postW (l.drop i) (ks2.map (·.2.1)) := by
                rcases HN1.out.shape with ⟨h1, -⟩ | ⟨-, h1⟩
                · simp at h1
                · rw [h1, List.map_append, List.map_cons, weave_mid Lc (ks1.map (·.2.1)) (ks2.map (·.2.1)) l (by simp at hks ⊢; omega), List.length_map, hk1i]
              have hrf : RisI Lf := by
                have h1 := HRIS.out
                rw [← HS1.out.2.2.2.1] at h1
                exact h1.app.1.app.2.1
              rw [hLf] at hrf
              obtain ⟨il1, il2⟩ := ins_list HS1.out.2.2.2.2.2.2 (HHAS.out ())
              rw [← HIL.out ()] at il1 il2
              refine ⟨h', A ++ preW (ks1.map (·.2.1)) (l.take i), postW (l.drop i) (ks2.map (·.2.1)) ++ B, Lc, Xc, _, dvc, lc, kc, HC.out, HS1.out.1.down HN1.out hk1i, HS1.out.2.1, fun k hk => HS1.out.2.2.1 k (HN1.out.own.2.2.2 (cb, Lc, Xc) (by simp) k hk), ?_, fun p hp => ?_, fun p hp => ?_, .inl ⟨by omega, Nat.le_refl _⟩⟩
              · rw [← HS1.out.2.2.2.1, hLf]
                simp
              · rcases List.mem_append.1 hp with hp | hp
                · exact HS1.out.2.2.2.2.1 p hp
                · exact preW_less _ _ (by rw [List.length_map, List.length_take]; omega) hrf.app.1.app.1 il1 p hp
              · rcases List.mem_append.1 hp with hp | hp
                · exact postW_less _ _ hrf.app.2.1 (fun z hz => il2 z (List.mem_of_getElem? hz)) p hp
                · exact HS1.out.2.2.2.2.2.1 p hp)
            have HGK := Lib.hid (fun (_ : Unit) => show 2 * h' + 2 < gk from by
              rcases HHOT.out with g | g
              · omega
              · omega)
            go_wp2_with fail
            go_roundg (2 * h' + 2)
            case measure => exact HGK.out ()
            case rel => exact ⟨cb, rfl, HPI⟩
      · have HHAS := Lib.hid (fun (_ : Unit) => hhas)
        clear hhas
        obtain ⟨y, hy0, hyk⟩ := hasI_at (HHAS.out ())
        have hy : l[i]? = some y := by rw [HIL.out ()]; exact hy0
        have hil := (List.getElem?_eq_some_iff.1 hy).1
        obtain ⟨g, cap, cur, rfl, hcap, hg, -⟩ := HN1.out.lr.cells (by rw [flI_len]; omega)
        have hgn : g ≠ nb := fun e => by
          rw [e, HN1.out.b] at hg
          simp at hg
        have HGX := Lib.hid (And.intro hg hgn)
        have HY := Lib.hid (And.intro hy hyk)
        have hil' : (i : Int) < (l.length : Int) := by omega
        clear hy0 hy hyk hg hgn
        go_wp2_with fail
        refine wp_region_plan (fun w5 => Below w1.heap.size w1 w5) 89 [([0, 4, 5, 1, 2, 3, 6, 7], [8], false)] (by kernel_rfl) (by kernel_rfl) ?_
        apply wpStages_last
        case hT => exact (Below.refl _ _).drew
        case hn => exact Nat.le_refl _
        case hq =>
          intro w5 hT
          have q0 := cell_of ((hT.block _ (lt_of_heap HN1.out.b)).trans HN1.out.b) 0
          have q1 := cell_of ((hT.block _ (lt_of_heap HE1.out)).trans HE1.out) 0
          have q2 := cell_of ((hT.block _ (lt_of_heap HE1.out)).trans HE1.out) 1
          simp only [List.getElem?_toArray, List.getElem?_cons_zero, List.getElem?_cons_succ] at q0 q1 q2
          clear hT
          simp only [picked, List.filterMap_cons, List.filterMap_nil, List.getElem?_cons_zero, List.getElem?_cons_succ]
          repeat still_step
          exact wpStill_nil rfl
        simp only [picked, List.filterMap_cons, List.filterMap_nil, List.getElem?_cons_zero, List.getElem?_cons_succ]
        have zg := frozen_of HGX.out.1
        have HC1 := Lib.hid (HN1.out.lr.setCell (i * 3 + 1) (.string nm) (by rw [flI_len]; omega))
        have HC2 := Lib.hid (HC1.out.setCell (i * 3 + 2) (.int .i64 nd) (by rw [List.length_set, flI_len]; omega))
        have hyg : ∀ j, j < 3 → ∃ u, w1.cell? ⟨g, i * 3 + j, none⟩ = some u := fun j hj => by
          obtain ⟨g', cap', cur', he, -, hg', hcur⟩ := HN1.out.lr.cells (by rw [flI_len]; omega)
          cases he
          obtain ⟨u, hu⟩ : ∃ u, (flI l)[i * 3 + j]? = some u := ⟨_, List.getElem?_eq_getElem (by rw [flI_len]; omega)⟩
          exact ⟨u, by rw [cell_of hg']; exact hcur _ _ hu⟩
        obtain ⟨u1, hu1⟩ := hyg 1 (by decide)
        obtain ⟨u2, hu2⟩ := hyg 2 (by decide)
        clear hyg
        go_wp2_with fail
        clear zg hu1 hu2
        refine OnlyNormal.mk ?_
        go_wp2_with fail
        go_end0
        have hfs : Frame [g] w1 ((w1.setCell ⟨g, i * 3 + 1, none⟩ (.string nm)).setCell ⟨g, i * 3 + 2, none⟩ (.int .i64 nd)) := ((Frame.refl [g] w1).set (p := ⟨g, i * 3 + 1, none⟩) (.inl (by simp)) _).set (p := ⟨g, i * 3 + 2, none⟩) (.inl (by simp)) _
        have hrow : HeadRow ((w1.setCell ⟨g, i * 3 + 1, none⟩ (.string nm)).setCell ⟨g, i * 3 + 2, none⟩ (.int .i64 nd)) 125 3 (.slice (some ⟨g, 0, none⟩) l.length cap) (l.set i ⟨y.key, nm, nd⟩).length (flI (l.set i ⟨y.key, nm, nd⟩)) := by
          rw [← flI_set l i y HY.out.1, List.length_set]
          exact HC2.out
        have hshape : ∃ Lf', ((ks = [] ∧ Lf' = l.set i ⟨y.key, nm, nd⟩) ∨ (ks.length = (l.set i ⟨y.key, nm, nd⟩).length + 1 ∧ Lf' = weave (ks.map (·.2.1)) (l.set i ⟨y.key, nm, nd⟩))) ∧ InsRel Lf ⟨kx, nm, nd⟩ Lf' := by
          have hyk := HY.out.2
          rcases HN1.out.shape with ⟨h1, h2⟩ | ⟨h1, h2⟩
          · obtain ⟨g1, g2⟩ := list_at l i y HY.out.1
            refine ⟨_, .inl ⟨h1, rfl⟩, .inl ⟨l.take i, l.drop (i + 1), y, h2.trans g1, hyk, ?_⟩⟩
            rw [g2, hyk]
          · obtain ⟨P, S, g1, g2⟩ := weave_at (ks.map (·.2.1)) l i y (by rw [List.length_map]; exact h1) HY.out.1
            refine ⟨_, .inr ⟨by rw [List.length_set]; exact h1, rfl⟩, .inl ⟨P, S, y, h2.trans g1, hyk, ?_⟩⟩
            rw [g2, hyk]
        obtain ⟨Lf', hs1, hs2⟩ := hshape
        obtain ⟨X', hx1, hx2, hx3⟩ := HN1.out.items hfs (fun k hk => .inr (by rw [List.mem_singleton.1 hk]; rfl)) ((heap_set_other _ _ _ (show nb ≠ g from fun e => HGX.out.2 e.symm)).trans ((heap_set_other _ _ _ (show nb ≠ g from fun e => HGX.out.2 e.symm)).trans HN1.out.b)) hrow (by rw [List.length_set]; exact HN1.out.l3) (fun k hk => .inl hk) hs1
        have hd : NodeAt (h + 1) (((w1.setCell ⟨g, i * 3 + 1, none⟩ (.string nm)).setCell ⟨g, i * 3 + 2, none⟩ (.int .i64 nd)).drew) nb Lf' X' := NodeAt.frame ((Frame.refl [] _).drew) (h + 1) _ _ _ ⟨_, _, _, _, hx1⟩ (by simp)
        have hpd := put_done HS1.out.1 HS1.out.2.1 HS1.out.2.2.1 HS1.out.2.2.2.1 HS1.out.2.2.2.2.1 HS1.out.2.2.2.2.2.1 hx3.drew hd hx2 hs2
        exact Ret.of rfl (put_base HFW.out hpd)


end Go.Proofs.Ytkapmpngglibjaa
