/- A walk over a tree. Conditions: the contract's own premises. -/
import Derived.Test.YtkapmpngglibjaaTreG
namespace Go.Proofs.Ytkapmpngglibjaa
open Go Go.RowKit

def gtr (k : ByteArray) (L : List Itm) : List Itm := L.filter fun x => bl k.toList x.key.toList
theorem gtr_app (k : ByteArray) (a b : List Itm) : gtr k (a ++ b) = gtr k a ++ gtr k b := List.filter_append ..
theorem gtr_all {k : ByteArray} {a : List Itm} (h : ∀ x ∈ a, lessK k x.key) : gtr k a = a := List.filter_eq_self.2 h
theorem gtr_none {k : ByteArray} {a : List Itm} (h : ∀ x ∈ a, ¬ lessK k x.key) : gtr k a = [] := List.filter_eq_nil_iff.2 h

theorem not_both {a b : ByteArray} (h1 : lessK a b) (h2 : lessK b a) : False := by
  have h3 := bl_asymm h1
  unfold lessK at h2
  rw [h2] at h3
  cases h3
theorem not_self {a : ByteArray} (h1 : lessK a a) : False := not_both h1 h1

theorem frame_from {B : Nat} {w w' : World} (h : Below B w w') : Frame (List.range' B (w.heap.size - B)) w w' :=
  ⟨h.os, h.tape, h.output, h.size, fun k hk hn => h.block k (by
    by_cases hB : k < B
    · exact hB
    · exact absurd (List.mem_range'_1.2 ⟨by omega, by omega⟩) hn)⟩
theorem NodeAt.below {B h nb : Nat} {w w' : World} {L : List Itm} {X : List Nat} (hn : NodeAt h w nb L X) (hb : Below B w w') (hX : ∀ k ∈ X, k < B) : NodeAt h w' nb L X :=
  NodeAt.frame (frame_from hb) h nb L X hn (fun k hk hm => by have := hX k hk; have := (List.mem_range'_1.1 hm).1; omega)

/-- What is still to be told from the k-th item of a node on. -/
def restW (l : List Itm) (ks : List Kid) (k : Nat) : List Itm := if ks = [] then l.drop k else postW (l.drop k) ((ks.drop (k + 1)).map (·.2.1))

theorem restW_end (l : List Itm) (ks : List Kid) (k : Nat) (h : l.length ≤ k) : restW l ks k = [] := by
  unfold restW
  rw [List.drop_of_length_le h]
  split <;> rfl
theorem restW_leaf (l : List Itm) (k : Nat) (x : Itm) (h : l[k]? = some x) : restW l [] k = x :: restW l [] (k + 1) := by
  obtain ⟨h1, h2⟩ := List.getElem?_eq_some_iff.1 h
  unfold restW
  rw [if_pos rfl, if_pos rfl, List.drop_eq_getElem_cons h1, h2]
theorem restW_inner (l : List Itm) (ks : List Kid) (k : Nat) (x : Itm) (kd : Kid) (hk : ks ≠ []) (h : l[k]? = some x) (hd : ks[k + 1]? = some kd) : restW l ks k = x :: (kd.2.1 ++ restW l ks (k + 1)) := by
  obtain ⟨h1, h2⟩ := List.getElem?_eq_some_iff.1 h
  obtain ⟨h3, h4⟩ := List.getElem?_eq_some_iff.1 hd
  unfold restW
  rw [if_neg hk, if_neg hk, List.drop_eq_getElem_cons h1, h2, List.drop_eq_getElem_cons h3, h4, List.map_cons, postW]

theorem ins_listG {l : List Itm} {k : ByteArray} (hr : RisI l) (h : hasI l k = false) : (∀ p ∈ l.take (lowI l k), lessK p.key k) ∧ ∀ s ∈ l.drop (lowI l k), lessK k s.key := by
  refine ⟨fun p hp => ?_, fun s hs => ?_⟩
  · obtain ⟨j, hj⟩ := List.getElem?_of_mem hp
    have hlt : j < lowI l k := by
      have := (List.getElem?_eq_some_iff.1 hj).1
      rw [List.length_take] at this
      omega
    rw [List.getElem?_take_of_lt hlt] at hj
    exact lowI_below hlt hj
  · have hr2 : RisI (l.drop (lowI l k)) := hr.sub (List.drop_sublist _ _)
    cases hd : l.drop (lowI l k) with
    | nil => rw [hd] at hs; cases hs
    | cons z zs =>
      rw [hd] at hs hr2
      have hz : l[lowI l k]? = some z := by
        have := congrArg (fun q => q[0]?) hd
        simpa [List.getElem?_drop] using this
      have h1 := lowI_at h hz
      rcases List.mem_cons.1 hs with rfl | hs
      · exact h1
      · exact h1.trans (hr2.cons.2 s hs)

/-- Where the walk of a node begins: behind all that is not above the key. -/
def fromI (l : List Itm) (k : ByteArray) : Nat := if hasI l k then lowI l k + 1 else lowI l k
theorem fromI_le (l : List Itm) (k : ByteArray) : fromI l k ≤ l.length := by
  unfold fromI
  split
  · rename_i h
    obtain ⟨x, hx, -⟩ := hasI_at h
    have := (List.getElem?_eq_some_iff.1 hx).1
    omega
  · exact lowI_le l k

theorem from_low {l : List Itm} {k : ByteArray} (x : Itm) (hx : x ∈ l.take (fromI l k)) : ¬ lessK k x.key := fun hl => by
  obtain ⟨j, hj⟩ := List.getElem?_of_mem hx
  have hlt : j < fromI l k := by
    have := (List.getElem?_eq_some_iff.1 hj).1
    rw [List.length_take] at this
    omega
  rw [List.getElem?_take_of_lt hlt] at hj
  unfold fromI at hlt
  split at hlt
  · rename_i h
    obtain ⟨y, hy, hyk⟩ := hasI_at h
    by_cases hji : j < lowI l k
    · exact not_both hl (lowI_below hji hj)
    · obtain rfl : j = lowI l k := by omega
      rw [hj] at hy
      cases hy
      rw [hyk] at hl
      exact not_self hl
  · exact not_both hl (lowI_below hlt hj)

theorem from_high {l : List Itm} {k : ByteArray} (hr : RisI l) (x : Itm) (hx : x ∈ l.drop (fromI l k)) : lessK k x.key := by
  unfold fromI at hx
  split at hx
  · rename_i h
    obtain ⟨y, hy, hyk⟩ := hasI_at h
    obtain ⟨g1, -⟩ := list_at l _ y hy
    rw [g1] at hr
    rw [← hyk]
    exact hr.app.2.1.cons.2 x hx
  · rename_i h
    exact (ins_listG hr (by simpa using h)).2 x hx

theorem leaf_gtr {l : List Itm} {k : ByteArray} (hr : RisI l) : gtr k l = restW l [] (fromI l k) := by
  unfold restW
  rw [if_pos rfl]
  conv => lhs; rw [← List.take_append_drop (fromI l k) l]
  rw [gtr_app, gtr_none (fun x hx => from_low x hx), gtr_all (fun x hx => from_high hr x hx), List.nil_append]

/-- In a node that isn't a leaf: what is in the node below where the walk begins, and all behind it. -/
theorem inner_gtr {l : List Itm} {k : ByteArray} {ks : List Kid} {kd : Kid} (hlen : ks.length = l.length + 1) (hr : RisI (weave (ks.map (·.2.1)) l)) (hk : ks[fromI l k]? = some kd) :
    gtr k (weave (ks.map (·.2.1)) l) = gtr k kd.2.1 ++ restW l ks (fromI l k) ∧ (∀ x ∈ restW l ks (fromI l k), lessK k x.key) ∧ RisI kd.2.1 := by
  have hle := fromI_le l k
  obtain ⟨h1, h2⟩ := List.getElem?_eq_some_iff.1 hk
  have hks : ks = ks.take (fromI l k) ++ kd :: ks.drop (fromI l k + 1) := by
    rw [← h2, ← List.drop_eq_getElem_cons h1, List.take_append_drop]
  have hw : weave (ks.map (·.2.1)) l = preW ((ks.take (fromI l k)).map (·.2.1)) (l.take (fromI l k)) ++ kd.2.1 ++ postW (l.drop (fromI l k)) ((ks.drop (fromI l k + 1)).map (·.2.1)) := by
    have h := weave_mid kd.2.1 ((ks.take (fromI l k)).map (·.2.1)) ((ks.drop (fromI l k + 1)).map (·.2.1)) l (by simp only [List.length_map, List.length_take, List.length_drop]; omega)
    have e : ((ks.take (fromI l k)).map (·.2.1)).length = fromI l k := by simp only [List.length_map, List.length_take]; omega
    rw [e] at h
    rw [← h]
    conv => lhs; rw [hks]
    rw [List.map_append, List.map_cons]
  have hne : ks ≠ [] := fun e => by rw [e] at hlen; simp at hlen
  have hrl : RisI l := hr.sub (weave_items _ _ (by rw [List.length_map]; exact hlen))
  rw [hw] at hr ⊢
  have hpost : ∀ x ∈ postW (l.drop (fromI l k)) ((ks.drop (fromI l k + 1)).map (·.2.1)), lessK k x.key := postW_less _ _ hr.app.2.1 (fun z hz => from_high hrl z (List.mem_of_getElem? hz))
  have hrest : restW l ks (fromI l k) = postW (l.drop (fromI l k)) ((ks.drop (fromI l k + 1)).map (·.2.1)) := by
    unfold restW
    rw [if_neg hne]
  refine ⟨?_, by rw [hrest]; exact hpost, hr.app.1.app.2.1⟩
  rw [gtr_app, gtr_app, gtr_all hpost, hrest, gtr_none, List.nil_append]
  intro x hx hl
  have hlast : ∀ (K : List (List Itm)) (xs : List Itm), K.length = xs.length → RisI (preW K xs) → (∀ z ∈ xs, ¬ lessK k z.key) → ∀ y ∈ preW K xs, ¬ lessK k y.key := by
    intro K
    induction K with
    | nil => intro xs _ _ _ y hy; simp [preW] at hy
    | cons q K ih =>
      intro xs hxl hrr hz y hy hly
      cases xs with
      | nil => simp [preW] at hy
      | cons z xs =>
        rw [preW] at hy hrr
        rcases List.mem_append.1 hy with hy | hy
        · exact hz z (by simp) (hly.trans (hrr.app.2.2 y hy z (by simp)))
        · rcases List.mem_cons.1 hy with rfl | hy
          · exact hz _ (by simp) hly
          · exact ih xs (by simpa using hxl) hrr.app.2.1.cons.1 (fun p hp => hz p (by simp [hp])) y hy hly
  exact hlast _ _ (by simp only [List.length_map, List.length_take]; omega) hr.app.1.app.1 (fun z hz => from_low z hz) x hx hl

def WalkRes (B : Nat) (J : List Itm → World → Prop) (stop : List Itm → Prop) (k : ByteArray) (L o : List Itm) (w : World) (v : Value) (w' : World) : Prop :=
  Below B w w' ∧ ((v = .bool true ∧ J (o ++ gtr k L) w') ∨ (v = .bool false ∧ ∃ P S, gtr k L = P ++ S ∧ J (o ++ P) w' ∧ stop (o ++ P)))

/-- What is called for each item. -/
def EachOK (F : Nat) (caps : Array Value) (B : Nat) (J : List Itm → World → Prop) (stop : List Itm → Prop) : Prop :=
  (∀ o w w', J o w → Below w.heap.size w w' → J o w') ∧
  ∀ o (x : Itm) w, B ≤ w.heap.size → J o w → Calls Try.prog F (#[x.v] ++ caps) w (RetV fun v w' => Below B w w' ∧ ((v = .bool true ∧ J (o ++ [x]) w') ∨ (v = .bool false ∧ J o w' ∧ stop o)))


end Go.Proofs.Ytkapmpngglibjaa
