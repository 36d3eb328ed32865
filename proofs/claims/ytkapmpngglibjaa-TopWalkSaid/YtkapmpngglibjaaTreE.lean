/- Nodes of a tree in memory: what they hold, in order, and which blocks are theirs. Conditions: each law's own premises. -/
import Derived.Test.YtkapmpngglibjaaTreD
namespace Go.Proofs.Ytkapmpngglibjaa
open Go Go.RowKit

def ptrV (b : Nat) : Value := .pointer (some ⟨b, 0, none⟩)

/-- What is in the nodes below, and the items between them. -/
def weave : List (List Itm) → List Itm → List Itm
  | k :: ks, x :: xs => k ++ x :: weave ks xs
  | k :: _, [] => k
  | [], xs => xs

/-- A node below: its block, what it holds, its blocks. -/
abbrev Kid := Nat × List Itm × List Nat

structure NodeEx (P : Nat → List Itm → List Nat → Prop) (w : World) (nb : Nat) (lv dv : Value) (l : List Itm) (ks : List Kid) (L : List Itm) (X : List Nat) : Prop where
  b : w.heap[nb]? = some (.cells #[lv, dv] 119 (0, 0))
  lr : HeadRow w 125 3 lv l.length (flI l)
  dr : HeadRow w 115 1 dv ks.length (ks.map fun k => ptrV k.1)
  l3 : l.length ≤ 3
  shape : (ks = [] ∧ L = l) ∨ (ks.length = l.length + 1 ∧ L = weave (ks.map (·.2.1)) l)
  kids : ∀ k ∈ ks, P k.1 k.2.1 k.2.2
  fp : X = nb :: (lv.ownBlock.toList ++ (dv.ownBlock.toList ++ (ks.map (·.2.2)).flatten))
  nd : X.Nodup

/-- A node of so many levels at the most: what it holds in order, its blocks. -/
def NodeAt : Nat → World → Nat → List Itm → List Nat → Prop
  | 0, _, _, _, _ => False
  | h + 1, w, nb, L, X => ∃ (lv dv : Value) (l : List Itm) (ks : List Kid), NodeEx (fun a b c => NodeAt h w a b c) w nb lv dv l ks L X

theorem NodeEx.own {P : Nat → List Itm → List Nat → Prop} {w : World} {nb : Nat} {lv dv : Value} {l : List Itm} {ks : List Kid} {L : List Itm} {X : List Nat} (h : NodeEx P w nb lv dv l ks L X) :
    nb ∈ X ∧ (∀ k, lv.ownBlock = some k → k ∈ X) ∧ (∀ k, dv.ownBlock = some k → k ∈ X) ∧ ∀ k ∈ ks, ∀ j ∈ k.2.2, j ∈ X := by
  rw [h.fp]
  refine ⟨by simp, fun k hk => by simp [hk], fun k hk => by simp [hk], fun k hk j hj => ?_⟩
  simp only [List.mem_cons, List.mem_append, List.mem_flatten, List.mem_map]
  exact .inr (.inr (.inr ⟨k.2.2, ⟨k, hk, rfl⟩, hj⟩))

theorem NodeEx.frame {P P' : Nat → List Itm → List Nat → Prop} {Y : List Nat} {w w' : World} {nb : Nat} {lv dv : Value} {l : List Itm} {ks : List Kid} {L : List Itm} {X : List Nat} (h : NodeEx P w nb lv dv l ks L X) (hf : Frame Y w w') (hX : ∀ k ∈ X, k ∉ Y)
    (hP : ∀ k ∈ ks, P k.1 k.2.1 k.2.2 → P' k.1 k.2.1 k.2.2) : NodeEx P' w' nb lv dv l ks L X := by
  obtain ⟨o1, o2, o3, -⟩ := h.own
  exact ⟨hf.heap h.b (hX _ o1), h.lr.frame hf (fun k hk => hX k (o2 k hk)), h.dr.frame hf (fun k hk => hX k (o3 k hk)), h.l3, h.shape, fun k hk => hP k hk (h.kids k hk), h.fp, h.nd⟩

theorem NodeAt.frame {Y : List Nat} {w w' : World} (hf : Frame Y w w') : ∀ (h : Nat) (nb : Nat) (L : List Itm) (X : List Nat), NodeAt h w nb L X → (∀ k ∈ X, k ∉ Y) → NodeAt h w' nb L X
  | 0, _, _, _, hn, _ => hn
  | h + 1, _, _, _, ⟨lv, dv, l, ks, hn⟩, hX => ⟨lv, dv, l, ks, hn.frame hf hX fun k hk hp => NodeAt.frame hf h k.1 k.2.1 k.2.2 hp (fun j hj => hX j (hn.own.2.2.2 k hk j hj))⟩

theorem NodeAt.lt {w : World} : ∀ (h : Nat) (nb : Nat) (L : List Itm) (X : List Nat), NodeAt h w nb L X → ∀ k ∈ X, k < w.heap.size
  | 0, _, _, _, hn, _, _ => hn.elim
  | h + 1, _, _, _, ⟨lv, dv, l, ks, hn⟩, k, hk => by
    rw [hn.fp] at hk
    simp only [List.mem_cons, List.mem_append, List.mem_flatten, List.mem_map, Option.mem_toList] at hk
    rcases hk with rfl | hk | hk | ⟨Z, ⟨kd, hkd, rfl⟩, hk⟩
    · exact lt_of_heap hn.b
    · obtain ⟨cur, hc⟩ := hn.lr.lt hk
      exact lt_of_heap hc
    · obtain ⟨cur, hc⟩ := hn.dr.lt hk
      exact lt_of_heap hc
    · exact NodeAt.lt h _ _ _ (hn.kids kd hkd) k hk

/-- More levels do no harm. -/
theorem NodeAt.up {w : World} : ∀ (h : Nat) (nb : Nat) (L : List Itm) (X : List Nat), NodeAt h w nb L X → NodeAt (h + 1) w nb L X
  | 0, _, _, _, hn => hn.elim
  | h + 1, _, _, _, ⟨lv, dv, l, ks, hn⟩ => ⟨lv, dv, l, ks, hn.b, hn.lr, hn.dr, hn.l3, hn.shape, fun k hk => NodeAt.up h _ _ _ (hn.kids k hk), hn.fp, hn.nd⟩

/-- How many items are in the node at a block. -/
def CntAt (w : World) (b n : Nat) : Prop := ∃ ao cap dv, w.heap[b]? = some (.cells #[.slice ao n cap, dv] 119 (0, 0))

theorem NodeEx.cnt {P : Nat → List Itm → List Nat → Prop} {w : World} {nb : Nat} {lv dv : Value} {l : List Itm} {ks : List Kid} {L : List Itm} {X : List Nat} (h : NodeEx P w nb lv dv l ks L X) : CntAt w nb l.length := by
  obtain ⟨ao, cap, rfl, -⟩ := h.lr.form
  exact ⟨ao, cap, dv, h.b⟩
theorem CntAt.inj {w : World} {b n m : Nat} (h : CntAt w b n) (h' : CntAt w b m) : n = m := by
  obtain ⟨a, c, d, h1⟩ := h
  obtain ⟨a', c', d', h2⟩ := h'
  rw [h1] at h2
  simp at h2
  exact h2.1.2.1

/-! ### what is in order -/

theorem weave_items : ∀ (ks : List (List Itm)) (l : List Itm), ks.length = l.length + 1 → l.Sublist (weave ks l)
  | [], [], h => by simp at h
  | k :: ks, [], _ => List.nil_sublist _
  | k :: ks, x :: xs, h => by
    rw [weave]
    exact ((weave_items ks xs (by simpa using h)).cons_cons x).trans (List.sublist_append_right _ _)
  | [], x :: xs, h => by simp at h

theorem RisI.sub {a b : List Itm} (h : RisI b) (hs : a.Sublist b) : RisI a := List.Pairwise.sublist (hs.map _) h

theorem NodeEx.ris {P : Nat → List Itm → List Nat → Prop} {w : World} {nb : Nat} {lv dv : Value} {l : List Itm} {ks : List Kid} {L : List Itm} {X : List Nat} (h : NodeEx P w nb lv dv l ks L X) (hr : RisI L) : RisI l := by
  rcases h.shape with ⟨-, rfl⟩ | ⟨h1, rfl⟩
  · exact hr
  · exact hr.sub (weave_items _ _ (by rw [List.length_map]; exact h1))

/-! ### find, leaf -/

set_option maxHeartbeats 1000000 in
theorem find_any (nb : Nat) (lv dv : Value) (l : List Itm) (k : ByteArray) (w : World) (hb : w.heap[nb]? = some (.cells #[lv, dv] 119 (0, 0))) (hl : ItemsAt w lv l) (hn : l.length ≤ 1000) (hs : RisI l) :
    Calls Try.prog 70 #[ptrV nb, .string k] w (Ret (.tuple #[.int .i64 (lowI l k : Int), .bool (hasI l k)]) fun w' => Below w.heap.size w w') := by
  have c0 := cell_of hb 0
  simp only [List.getElem?_toArray, List.getElem?_cons_zero] at c0
  have HS := Lib.hid (searchI_any lv l k w hl hn hs)
  clear hl hs hb
  unfold ptrV
  go_enter Try.func70, Try.ntmps70
  go_wp2_with fail
  refine HS.out.mono ?_
  rintro e w1 ⟨rfl, hB⟩
  go_wp2_with fail
  go_ret2
  exact Ret.of rfl hB

set_option maxHeartbeats 1000000 in
theorem leaf_any (nb : Nat) (lv : Value) (ao : Option Addr) (n cap : Nat) (w : World) (hb : w.heap[nb]? = some (.cells #[lv, .slice ao n cap] 119 (0, 0))) :
    Calls Try.prog 71 #[ptrV nb] w (Ret (.bool (decide (n = 0))) fun w' => w = w') := by
  have c0 := cell_of hb 1
  simp only [List.getElem?_toArray, List.getElem?_cons_succ, List.getElem?_cons_zero] at c0
  clear hb
  unfold ptrV
  by_cases h0 : n = 0
  · subst h0
    go_enter Try.func71, Try.ntmps71
    go_wp2_with fail
    go_ret
    exact Ret.of rfl rfl
  · have h1 : ¬ (n : Int) = 0 := by omega
    have h2 : ((n : Int) == 0) = false := by simpa using h1
    have HD := Lib.hid (show decide (n = 0) = false from decide_eq_false h0)
    go_enter Try.func71, Try.ntmps71
    go_wp2_with fail
    go_ret
    exact Ret.of (by rw [HD.out]; rfl) rfl

end Go.Proofs.Ytkapmpngglibjaa
