/- What is put into a tree, and where: plain. Conditions: each law's own premises. -/
import Derived.Test.YtkapmpngglibjaaTreF
namespace Go.Proofs.Ytkapmpngglibjaa
open Go Go.RowKit

theorem baExt {a b : ByteArray} (h : a.data.toList = b.data.toList) : a = b := by
  obtain ⟨⟨a⟩⟩ := a
  obtain ⟨⟨b⟩⟩ := b
  simp at h
  subst h
  rfl

def preW : List (List Itm) → List Itm → List Itm
  | k :: ks, x :: xs => k ++ x :: preW ks xs
  | _, _ => []
def postW : List Itm → List (List Itm) → List Itm
  | x :: xs, k :: ks => x :: (k ++ postW xs ks)
  | _, _ => []

theorem weave_post : ∀ (K : List (List Itm)) (l : List Itm) (M : List Itm), K.length = l.length → weave (M :: K) l = M ++ postW l K
  | [], [], M, _ => by simp [weave, postW]
  | k :: K, x :: l, M, h => by
    rw [weave, postW, weave_post K l k (by simpa using h)]
  | [], _ :: _, _, h => by simp at h
  | _ :: _, [], _, h => by simp at h

theorem weave_mid (M : List Itm) : ∀ (K1 K2 : List (List Itm)) (l : List Itm), K1.length + K2.length = l.length → weave (K1 ++ M :: K2) l = preW K1 (l.take K1.length) ++ M ++ postW (l.drop K1.length) K2
  | [], K2, l, h => by
    rw [List.nil_append, weave_post K2 l M (by simpa using h)]
    simp [preW]
  | k :: K1, K2, [], h => by simp at h
  | k :: K1, K2, x :: l, h => by
    have ih := weave_mid M K1 K2 l (by simp at h; omega)
    simp only [List.cons_append, weave, ih, List.length_cons, List.take_succ_cons, List.drop_succ_cons, preW, List.append_assoc, List.cons_append]

theorem weave_at : ∀ (K : List (List Itm)) (l : List Itm) (i : Nat) (y : Itm), K.length = l.length + 1 → l[i]? = some y → ∃ P S, weave K l = P ++ y :: S ∧ ∀ x, weave K (l.set i x) = P ++ x :: S
  | k :: K, z :: l, 0, y, _, hy => by
    simp at hy
    subst hy
    exact ⟨k, weave K l, rfl, fun x => rfl⟩
  | k :: K, z :: l, i + 1, y, h, hy => by
    obtain ⟨P, S, h1, h2⟩ := weave_at K l i y (by simpa using h) (by simpa using hy)
    refine ⟨k ++ z :: P, S, by rw [weave, h1]; simp, fun x => ?_⟩
    rw [List.set_cons_succ, weave, h2]
    simp
  | [], _, _, _, h, _ => by simp at h
  | _ :: _, [], _, _, _, hy => by simp at hy

theorem list_at (l : List Itm) (i : Nat) (y : Itm) (h : l[i]? = some y) : l = l.take i ++ y :: l.drop (i + 1) ∧ ∀ x, l.set i x = l.take i ++ x :: l.drop (i + 1) := by
  obtain ⟨h1, h2⟩ := List.getElem?_eq_some_iff.1 h
  refine ⟨?_, fun x => ?_⟩
  · rw [show y :: l.drop (i + 1) = l.drop i by rw [List.drop_eq_getElem_cons h1, h2], List.take_append_drop]
  · rw [List.set_eq_take_append_cons_drop, if_pos h1]

/-! ### order -/

def lessK (a b : ByteArray) : Prop := bl a.toList b.toList = true

theorem RisI.app {a b : List Itm} (h : RisI (a ++ b)) : RisI a ∧ RisI b ∧ ∀ x ∈ a, ∀ y ∈ b, lessK x.key y.key := by
  unfold RisI KI at h
  rw [List.map_append] at h
  obtain ⟨h1, h2, h3⟩ := List.pairwise_append.1 h
  exact ⟨h1, h2, fun x hx y hy => h3 x.c (List.mem_map.2 ⟨x, hx, rfl⟩) y.c (List.mem_map.2 ⟨y, hy, rfl⟩)⟩
theorem RisI.mk_app {a b : List Itm} (h1 : RisI a) (h2 : RisI b) (h3 : ∀ x ∈ a, ∀ y ∈ b, lessK x.key y.key) : RisI (a ++ b) := by
  unfold RisI KI
  rw [List.map_append]
  refine List.pairwise_append.2 ⟨h1, h2, fun x hx y hy => ?_⟩
  obtain ⟨x', hx', rfl⟩ := List.mem_map.1 hx
  obtain ⟨y', hy', rfl⟩ := List.mem_map.1 hy
  exact h3 x' hx' y' hy'
theorem RisI.cons {x : Itm} {b : List Itm} (h : RisI (x :: b)) : RisI b ∧ ∀ y ∈ b, lessK x.key y.key := by
  obtain ⟨-, h2, h3⟩ := RisI.app (a := [x]) (b := b) h
  exact ⟨h2, fun y hy => h3 x (by simp) y hy⟩
theorem RisI.mk_cons {x : Itm} {b : List Itm} (h2 : RisI b) (h3 : ∀ y ∈ b, lessK x.key y.key) : RisI (x :: b) :=
  RisI.mk_app (a := [x]) (List.pairwise_singleton _ _) h2 (fun z hz y hy => by rw [List.mem_singleton.1 hz]; exact h3 y hy)

theorem lessK.trans {a b c : ByteArray} (h1 : lessK a b) (h2 : lessK b c) : lessK a c := bl_trans _ _ _ h1 h2

theorem lowI_below {l : List Itm} {k : ByteArray} {j : Nat} {x : Itm} (hj : j < lowI l k) (hx : l[j]? = some x) : lessK x.key k := by
  refine low_below (KI l) k x.c ?_
  refine List.mem_of_getElem? (i := j) ?_
  rw [List.getElem?_take_of_lt (show j < lowOf (KI l) k from hj), KI_get, hx]
  rfl
theorem lowI_at {l : List Itm} {k : ByteArray} {x : Itm} (h : hasI l k = false) (hx : l[lowI l k]? = some x) : lessK k x.key := by
  refine low_at k h x.c ?_
  show (KI l)[lowI l k]? = _
  rw [KI_get, hx]
  rfl
theorem hasI_at {l : List Itm} {k : ByteArray} (h : hasI l k = true) : ∃ x, l[lowI l k]? = some x ∧ x.key = k := by
  obtain ⟨c, hc, hk⟩ := low_lt (l := KI l) (k := k) h
  have hc' : (KI l)[lowI l k]? = some c := hc
  rw [KI_get] at hc'
  cases hx : l[lowI l k]? with
  | none => rw [hx] at hc'; simp at hc'
  | some x =>
    rw [hx] at hc'
    simp at hc'
    subst hc'
    refine ⟨x, rfl, baExt ?_⟩
    rw [← ByteArray.toList_eq, ← ByteArray.toList_eq]
    exact hk

theorem preW_less {k : ByteArray} : ∀ (K : List (List Itm)) (xs : List Itm), K.length = xs.length → RisI (preW K xs) → (∀ x ∈ xs, lessK x.key k) → ∀ y ∈ preW K xs, lessK y.key k
  | [], xs, h, _, _, y, hy => by simp [preW] at hy
  | _ :: _, [], h, _, _, y, hy => by simp [preW] at hy
  | q :: K, x :: xs, h, hr, hx, y, hy => by
    rw [preW] at hy hr
    obtain ⟨-, h2, h3⟩ := hr.app
    rcases List.mem_append.1 hy with hy | hy
    · exact (h3 y hy x (by simp)).trans (hx x (by simp))
    · rcases List.mem_cons.1 hy with rfl | hy
      · exact hx _ (by simp)
      · exact preW_less K xs (by simpa using h) h2.cons.1 (fun z hz => hx z (by simp [hz])) y hy

theorem postW_less {k : ByteArray} : ∀ (xs : List Itm) (K : List (List Itm)), RisI (postW xs K) → (∀ x, xs[0]? = some x → lessK k x.key) → ∀ y ∈ postW xs K, lessK k y.key
  | [], K, _, _, y, hy => by simp [postW] at hy
  | _ :: _, [], _, _, y, hy => by simp [postW] at hy
  | x :: xs, q :: K, hr, hx, y, hy => by
    rw [postW] at hy hr
    have hx0 := hx x rfl
    rcases List.mem_cons.1 hy with rfl | hy
    · exact hx0
    · exact hx0.trans (hr.cons.2 y hy)

/-! ### what is put -/

/-- x is in what was L: instead of the one of its key, or where it belongs. -/
def InsRel (L : List Itm) (x : Itm) (L' : List Itm) : Prop :=
  (∃ P S y, L = P ++ y :: S ∧ y.key = x.key ∧ L' = P ++ x :: S) ∨ (∃ P S, L = P ++ S ∧ L' = P ++ x :: S ∧ (∀ p ∈ P, lessK p.key x.key) ∧ ∀ s ∈ S, lessK x.key s.key)

theorem InsRel.inside {A B L L' : List Itm} {x : Itm} (h : InsRel L x L') (hA : ∀ p ∈ A, lessK p.key x.key) (hB : ∀ p ∈ B, lessK x.key p.key) : InsRel (A ++ L ++ B) x (A ++ L' ++ B) := by
  rcases h with ⟨P, S, y, rfl, h2, rfl⟩ | ⟨P, S, rfl, rfl, h3, h4⟩
  · exact .inl ⟨A ++ P, S ++ B, y, by simp, h2, by simp⟩
  · refine .inr ⟨A ++ P, S ++ B, by simp, by simp, fun p hp => ?_, fun p hp => ?_⟩
    · rcases List.mem_append.1 hp with hp | hp
      · exact hA p hp
      · exact h3 p hp
    · rcases List.mem_append.1 hp with hp | hp
      · exact h4 p hp
      · exact hB p hp

theorem InsRel.ris {L L' : List Itm} {x : Itm} (h : InsRel L x L') (hr : RisI L) : RisI L' := by
  rcases h with ⟨P, S, y, rfl, h2, rfl⟩ | ⟨P, S, rfl, rfl, h3, h4⟩
  · obtain ⟨h5, h6, h7⟩ := hr.app
    refine RisI.mk_app h5 (RisI.mk_cons h6.cons.1 (fun z hz => by rw [← h2]; exact h6.cons.2 z hz)) (fun a ha z hz => ?_)
    rcases List.mem_cons.1 hz with rfl | hz
    · rw [← h2]
      exact h7 a ha y (by simp)
    · exact h7 a ha z (by simp [hz])
  · obtain ⟨h5, h6, h7⟩ := hr.app
    refine RisI.mk_app h5 (RisI.mk_cons h6 h4) (fun a ha z hz => ?_)
    rcases List.mem_cons.1 hz with rfl | hz
    · exact h3 a ha
    · exact h7 a ha z hz

theorem InsRel.mem {L L' : List Itm} {x : Itm} (h : InsRel L x L') : ∀ z ∈ L', z = x ∨ z ∈ L := fun z hz => by
  rcases h with ⟨P, S, y, rfl, h2, rfl⟩ | ⟨P, S, rfl, rfl, h3, h4⟩
  · simp only [List.mem_append, List.mem_cons] at hz ⊢
    rcases hz with h | h | h
    · exact .inr (.inl h)
    · exact .inl h
    · exact .inr (.inr (.inr h))
  · simp only [List.mem_append, List.mem_cons] at hz ⊢
    rcases hz with h | h | h
    · exact .inr (.inl h)
    · exact .inl h
    · exact .inr (.inr h)

theorem InsRel.len {L L' : List Itm} {x : Itm} (h : InsRel L x L') : L'.length ≤ L.length + 1 := by
  rcases h with ⟨P, S, y, rfl, h2, rfl⟩ | ⟨P, S, rfl, rfl, h3, h4⟩
  · simp
  · simp
    omega

/-! ### a tree, and its part that is in hand -/

def TreeAt (H : Nat) (w : World) (tb : Nat) (L : List Itm) (X : List Nat) : Prop :=
  ∃ rb Xr, w.heap[tb]? = some (.cells #[ptrV rb] 121 (0, 0)) ∧ NodeAt H w rb L Xr ∧ X = tb :: Xr ∧ tb ∉ Xr

theorem TreeAt.frame {H : Nat} {w w' : World} {tb : Nat} {L : List Itm} {X Y : List Nat} (h : TreeAt H w tb L X) (hf : Frame Y w w') (hX : ∀ k ∈ X, k ∉ Y) : TreeAt H w' tb L X := by
  obtain ⟨rb, Xr, h1, h2, rfl, h4⟩ := h
  exact ⟨rb, Xr, hf.heap h1 (hX tb (by simp)), NodeAt.frame hf H _ _ _ h2 (fun k hk => hX k (by simp [hk])), rfl, h4⟩
theorem TreeAt.lt {H : Nat} {w : World} {tb : Nat} {L : List Itm} {X : List Nat} (h : TreeAt H w tb L X) : ∀ k ∈ X, k < w.heap.size := by
  obtain ⟨rb, Xr, h1, h2, rfl, h4⟩ := h
  intro k hk
  rcases List.mem_cons.1 hk with rfl | hk
  · exact lt_of_heap h1
  · exact NodeAt.lt H _ _ _ h2 k hk

/-- Whatever is made of the node in hand: the tree is whole again, with it in its place. -/
def Wand (h : Nat) (w wr : World) (H tb nb : Nat) (X Xf : List Nat) (A B : List Itm) : Prop :=
  ∀ (w' : World) (L' : List Itm) (X' : List Nat), Frame Xf wr w' → NodeAt h w' nb L' X' → Fresh wr Xf X' → ∃ Z, TreeAt H w' tb (A ++ L' ++ B) Z ∧ Fresh w X Z

theorem Wand.moved {h : Nat} {w wr w2 : World} {H tb nb : Nat} {X Xf Xf' : List Nat} {A B : List Itm} (hw : Wand h w wr H tb nb X Xf A B) (hf : Frame Xf wr w2) (hx : Fresh wr Xf Xf') : Wand h w w2 H tb nb X Xf' A B :=
  fun w' L' X' h1 h2 h3 => hw w' L' X' (hf.then' h1 hx) h2 (hx.trans h3 hf.size)

/-- The node below in hand. -/
theorem Wand.down {h i : Nat} {w wr : World} {H tb nb : Nat} {X Xf : List Nat} {A B : List Itm} {lv dv : Value} {l : List Itm} {ks1 ks2 : List Kid} {L : List Itm} {cb : Nat} {Lc : List Itm} {Xc : List Nat} (hw : Wand (h + 1) w wr H tb nb X Xf A B)
    (hn : NodeEx (fun p q r => NodeAt h wr p q r) wr nb lv dv l (ks1 ++ (cb, Lc, Xc) :: ks2) L Xf) (hi : ks1.length = i) :
    Wand h w wr H tb cb X Xc (A ++ preW (ks1.map (·.2.1)) (l.take i)) (postW (l.drop i) (ks2.map (·.2.1)) ++ B) := by
  intro w' L' X' h1 h2 h3
  have hlen : (ks1 ++ (cb, Lc, Xc) :: ks2).length = l.length + 1 := by
    rcases hn.shape with ⟨h0, -⟩ | h1
    · simp at h0
    · exact h1.1
  have hlt := NodeAt.lt (h + 1) nb L Xf ⟨lv, dv, l, _, hn⟩
  have hnd := List.nodup_iff_count.1 hn.nd
  have fpX : Xf = nb :: (lv.ownBlock.toList ++ (dv.ownBlock.toList ++ (fpOf ks1 ++ (Xc ++ fpOf ks2)))) := by
    rw [hn.fp]
    show nb :: (_ ++ (_ ++ fpOf _)) = _
    rw [fpOf_append, fpOf_cons]
  have hc : ∀ j, (if nb = j then 1 else 0) + (lv.ownBlock.toList.count j + (dv.ownBlock.toList.count j + ((fpOf ks1).count j + (Xc.count j + (fpOf ks2).count j)))) ≤ 1 := fun j => by
    have := hnd j
    rw [fpX] at this
    simp only [List.count_cons, List.count_append, beq_iff_eq] at this
    omega
  have hout : ∀ j, j = nb ∨ lv.ownBlock = some j ∨ dv.ownBlock = some j ∨ j ∈ fpOf ks1 ∨ j ∈ fpOf ks2 → j ∉ Xc := fun j hj hm => by
    have h4 := List.count_pos_iff.2 hm
    have h5 := hc j
    rcases hj with rfl | e | e | e | e
    · rw [if_pos rfl] at h5; omega
    · rw [e] at h5; simp at h5; omega
    · rw [e] at h5; simp at h5; omega
    · have := List.count_pos_iff.2 e; omega
    · have := List.count_pos_iff.2 e; omega
  have hXc : ∀ k ∈ Xc, k ∈ Xf := fun k hk => by rw [fpX]; simp [hk]
  have hX'nd : ∀ j, X'.count j ≤ 1 := by
    cases h with
    | zero => exact h2.elim
    | succ h =>
      obtain ⟨_, _, _, _, h2⟩ := h2
      exact List.nodup_iff_count.1 h2.nd
  have hkin : ∀ (ks : List Kid) (k : Kid), k ∈ ks → ∀ j ∈ k.2.2, j ∈ fpOf ks := fun ks k hk j hj => List.mem_flatten.2 ⟨k.2.2, List.mem_map.2 ⟨k, hk, rfl⟩, hj⟩
  have hnew : NodeEx (fun p q r => NodeAt h w' p q r) w' nb lv dv l (ks1 ++ (cb, L', X') :: ks2) (preW (ks1.map (·.2.1)) (l.take i) ++ L' ++ postW (l.drop i) (ks2.map (·.2.1))) (nb :: (lv.ownBlock.toList ++ (dv.ownBlock.toList ++ fpOf (ks1 ++ (cb, L', X') :: ks2)))) := by
    refine ⟨h1.heap hn.b (hout nb (.inl rfl)), hn.lr.frame h1 (fun k hk => hout k (.inr (.inl hk))), ?_, hn.l3, .inr ⟨by simpa using hlen, ?_⟩, fun k hk => ?_, rfl, ?_⟩
    · have := hn.dr.frame h1 (fun k hk => hout k (.inr (.inr (.inl hk))))
      simpa using this
    · simp only [List.map_append, List.map_cons]
      rw [weave_mid L' (ks1.map (·.2.1)) (ks2.map (·.2.1)) l (by simp at hlen ⊢; omega), List.length_map, hi]
    · simp only [List.mem_append, List.mem_cons] at hk
      rcases hk with hk | rfl | hk
      · exact NodeAt.frame h1 h _ _ _ (hn.kids k (by simp [hk])) (fun j hj => hout j (.inr (.inr (.inr (.inl (hkin ks1 k hk j hj))))))
      · exact h2
      · exact NodeAt.frame h1 h _ _ _ (hn.kids k (by simp [hk])) (fun j hj => hout j (.inr (.inr (.inr (.inr (hkin ks2 k hk j hj))))))
    · refine List.nodup_iff_count.2 fun j => ?_
      have h5 := hc j
      have h6 := hX'nd j
      simp only [List.count_cons, List.count_append, beq_iff_eq, fpOf_append, fpOf_cons] at h5 ⊢
      by_cases hjX : j ∈ X'
      · rcases h3 j hjX with g | g
        · have := List.count_pos_iff.2 g
          omega
        · have h0 : Xf.count j = 0 := List.count_eq_zero.2 fun hm => by have := hlt j hm; omega
          rw [fpX] at h0
          simp only [List.count_cons, List.count_append, beq_iff_eq] at h0
          omega
      · have := List.count_eq_zero.2 hjX
        omega
  obtain ⟨Z, hz1, hz2⟩ := hw w' _ _ (h1.mono hXc) ⟨lv, dv, l, _, hnew⟩ (fun k hk => by
    simp only [List.mem_cons, List.mem_append, fpOf_append, fpOf_cons] at hk
    rcases hk with e | e | e | e | e | e
    · left; rw [fpX]; simp [e]
    · left; rw [fpX]; simp only [List.mem_cons, List.mem_append]; exact .inr (.inl e)
    · left; rw [fpX]; simp only [List.mem_cons, List.mem_append]; exact .inr (.inr (.inl e))
    · left; rw [fpX]; simp [e]
    · exact (h3 k e).imp (hXc k) id
    · left; rw [fpX]; simp [e])
  exact ⟨Z, by simpa using hz1, hz2⟩

end Go.Proofs.Ytkapmpngglibjaa
