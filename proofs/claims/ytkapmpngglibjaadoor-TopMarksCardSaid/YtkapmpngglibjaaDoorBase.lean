/- Plain facts on memory: what a block holds behind a store, a new block, a call that touches certain blocks alone. No condition. -/
import Derived.Test.YtkapmpngglibjaaDoorRows
import Derived.Test.YtkapmpngglibjaaDoorRegion
import Derived.WalkKit
import Derived.WalkSpells
import Derived.WalkLawsBesides
import Derived.Lib.Hide
import Derived.Deep.AppendLies
import Derived.Laws.CopyOwn
import Derived.Laws.AppendOwnNone
import Derived.ProofKit
namespace Go.Proofs.YtkapmpngglibjaaDoor
open Go Go.RowKit

/-- A call's end: it returns v, in a world of which R holds. (A name, so that no walk looks into it.) -/
def Ret (v : Value) (R : World → Prop) (e : Ending) (w' : World) : Prop := e = .returned v ∧ R w'
theorem Ret.mk {v : Value} {R : World → Prop} {e : Ending} {w' : World} (h : e = .returned v) (hR : R w') : Ret v R e w' := ⟨h, hR⟩
theorem Ret.of {v v' : Value} {R : World → Prop} {w' : World} (h : v' = v) (hR : R w') : Ret v R (.returned v') w' := ⟨by rw [h], hR⟩

/-! ### blocks -/

theorem heap_alloc_new (w : World) (o : Obj) : (w.alloc o).heap[w.heap.size]? = some o := by
  show (w.heap.push o)[w.heap.size]? = _
  simp

theorem heap_alloc_old (w : World) (o : Obj) {k : Nat} (h : k < w.heap.size) : (w.alloc o).heap[k]? = w.heap[k]? := Below.heap_alloc w o k h

theorem heap_set_other (w : World) (a : Addr) (v : Value) {k : Nat} (h : k ≠ a.block) : (w.setCell a v).heap[k]? = w.heap[k]? := Below.heap_setCell w a v k h

theorem heap_set_same {w : World} {b : Nat} {c : Array Value} {e : TypeId} {f : Nat × Nat} (i : Nat) (v : Value) (h : w.heap[b]? = some (.cells c e f)) :
    (w.setCell ⟨b, i, none⟩ v).heap[b]? = some (.cells (c.setIfInBounds i v) e f) := by
  simp only [World.setCell, Array.getElem?_modify, h, if_true]
  rfl

theorem lt_of_heap {w : World} {b : Nat} {o : Obj} (h : w.heap[b]? = some o) : b < w.heap.size := by
  rcases Nat.lt_or_ge b w.heap.size with h' | h'
  · exact h'
  · rw [Array.getElem?_eq_none h'] at h; cases h

theorem cell_of {w : World} {b : Nat} {c : Array Value} {e : TypeId} {f : Nat × Nat} (h : w.heap[b]? = some (.cells c e f)) (i : Nat) : w.cell? ⟨b, i, none⟩ = c[i]? := by
  simp only [World.cell?, h]
  rfl

theorem frozen_of {w : World} {b : Nat} {c : Array Value} {e : TypeId} (h : w.heap[b]? = some (.cells c e (0, 0))) (i : Nat) : w.frozen? ⟨b, i, none⟩ = false := by
  simp [World.frozen?, h]

theorem size_set (w : World) (a : Addr) (v : Value) : (w.setCell a v).heap.size = w.heap.size := by simp [World.setCell]
theorem size_alloc (w : World) (o : Obj) : (w.alloc o).heap.size = w.heap.size + 1 := by
  show (w.heap.push o).size = _
  simp
theorem heap_drew (w : World) : w.drew.heap = w.heap := rfl

/-! ### 'nothing but these blocks, and new ones, has turned' -/

structure Frame (X : List Nat) (w w' : World) : Prop where
  os : w'.os = w.os
  tape : w'.tape = w.tape
  output : w'.output = w.output
  size : w.heap.size ≤ w'.heap.size
  block : ∀ k, k < w.heap.size → k ∉ X → w'.heap[k]? = w.heap[k]?

namespace Frame
theorem refl (X : List Nat) (w : World) : Frame X w w := ⟨rfl, rfl, rfl, Nat.le_refl _, fun _ _ _ => rfl⟩
theorem then' {X Y : List Nat} {w w1 w2 : World} (h : Frame X w w1) (k : Frame Y w1 w2) (hY : ∀ b ∈ Y, b ∈ X ∨ w.heap.size ≤ b) : Frame X w w2 :=
  ⟨k.os.trans h.os, k.tape.trans h.tape, k.output.trans h.output, Nat.le_trans h.size k.size, fun i hi hX =>
    (k.block i (Nat.lt_of_lt_of_le hi h.size) (fun hc => (hY i hc).elim hX (fun hge => by omega))).trans (h.block i hi hX)⟩
theorem trans {X : List Nat} {w w1 w2 : World} (h : Frame X w w1) (k : Frame X w1 w2) : Frame X w w2 := h.then' k fun _ hb => .inl hb
theorem mono {X Y : List Nat} {w w' : World} (h : Frame X w w') (hXY : ∀ k ∈ X, k ∈ Y) : Frame Y w w' := ⟨h.os, h.tape, h.output, h.size, fun k hk hn => h.block k hk fun hc => hn (hXY k hc)⟩
theorem drew {X : List Nat} {a w : World} (h : Frame X a w) : Frame X a w.drew := ⟨h.os, h.tape, h.output, h.size, h.block⟩
theorem drew' {X : List Nat} {a w : World} (h : Frame X a.drew w) : Frame X a w := ⟨h.os, h.tape, h.output, h.size, h.block⟩
theorem alloc {X : List Nat} {a w : World} (h : Frame X a w) (o : Obj) : Frame X a (w.alloc o) :=
  h.trans ⟨rfl, rfl, rfl, by rw [size_alloc]; omega, fun _ hk _ => heap_alloc_old _ _ hk⟩
theorem set {X : List Nat} {a w : World} (h : Frame X a w) {p : Addr} (hp : p.block ∈ X ∨ a.heap.size ≤ p.block) (u : Value) : Frame X a (w.setCell p u) :=
  h.then' (Y := [p.block]) ⟨rfl, rfl, rfl, by rw [size_set]; exact Nat.le_refl _, fun _ _ hn => heap_set_other _ _ _ (by simpa using hn)⟩ (by simpa using hp)
theorem grown {X : List Nat} {a w w' : World} {row : Option Nat} (h : Frame X a w) (hg : w.grownBy w' row) (hr : ∀ k, row = some k → k ∈ X ∨ a.heap.size ≤ k) : Frame X a w' :=
  h.then' (Y := row.toList) ⟨hg.os, hg.tape, hg.output, hg.size, fun k hk hn => hg.block k hk (fun e => hn (by simp [← e]))⟩ (fun b hb => hr b (by simpa using hb))
theorem of_below {w w' : World} (X : List Nat) (h : Below w.heap.size w w') : Frame X w w' := ⟨h.os, h.tape, h.output, h.size, fun k hk _ => h.block k hk⟩
theorem below {X : List Nat} {w w' : World} (h : Frame X w w') {B : Nat} (hB : B ≤ w.heap.size) (hX : ∀ k ∈ X, B ≤ k) : Below B w w' :=
  ⟨h.os, h.tape, h.output, h.size, fun k hk => h.block k (by omega) (fun hc => by have := hX k hc; omega)⟩
theorem heap {X : List Nat} {w w' : World} (h : Frame X w w') {b : Nat} {o : Obj} (hb : w.heap[b]? = some o) (hX : b ∉ X) : w'.heap[b]? = some o := (h.block b (lt_of_heap hb) hX).trans hb
theorem cell {X : List Nat} {w w' : World} (h : Frame X w w') {a : Addr} {v : Value} (hb : w.cell? a = some v) (hX : a.block ∉ X) : w'.cell? a = some v :=
  (World.cell?_of_block (h.block a.block (World.block_lt_of_cell? w a hb) hX)).trans hb
theorem frozen {X : List Nat} {w w' : World} (h : Frame X w w') {a : Addr} (ha : a.block < w.heap.size) (hX : a.block ∉ X) : w'.frozen? a = w.frozen? a := World.frozen?_of_block (h.block a.block ha hX)
end Frame

/-- The blocks of Y are of X, or new behind w. -/
def Fresh (w : World) (X Y : List Nat) : Prop := ∀ k ∈ Y, k ∈ X ∨ w.heap.size ≤ k
theorem Fresh.refl (w : World) (X : List Nat) : Fresh w X X := fun _ h => .inl h
theorem Fresh.trans {w w1 : World} {X Y Z : List Nat} (h : Fresh w X Y) (k : Fresh w1 Y Z) (hs : w.heap.size ≤ w1.heap.size) : Fresh w X Z :=
  fun b hb => (k b hb).elim (h b) fun hge => .inr (Nat.le_trans hs hge)

/-! ### slices that a call owns -/

theorem owns_of_heap {w w' : World} {base : Nat} {e : TypeId} {size : Nat} {v : Value} {n : Nat} {xs : List Value} (h : w.ownsRow base e size v n xs)
    (hb : ∀ k, v.ownBlock = some k → w'.heap[k]? = w.heap[k]?) : w'.ownsRow base e size v n xs := by
  obtain ⟨h1, h2⟩ := h
  refine ⟨h1, ?_⟩
  rcases h2 with h2 | ⟨g, cap, cur, hv, hg, hh, r⟩
  · exact .inl h2
  · exact .inr ⟨g, cap, cur, hv, hg, by rw [hb g (by rw [hv]; rfl)]; exact hh, r⟩

theorem owns_zero {w : World} {base : Nat} {e : TypeId} {size : Nat} {v : Value} {n : Nat} {xs : List Value} (h : w.ownsRow base e size v n xs) : w.ownsRow 0 e size v n xs :=
  ⟨h.1, h.2.imp id (fun ⟨g, cap, cur, a, _, c⟩ => ⟨g, cap, cur, a, Nat.zero_le _, c⟩)⟩

theorem owns_lt {w : World} {base : Nat} {e : TypeId} {size : Nat} {v : Value} {n : Nat} {xs : List Value} (h : w.ownsRow base e size v n xs) {k : Nat} (hk : v.ownBlock = some k) :
    ∃ cur, w.heap[k]? = some (.cells cur e (0, 0)) := by
  rcases h.2 with ⟨h2, _⟩ | ⟨g, cap, cur, hv, hg, hh, r⟩
  · rw [h2] at hk; cases hk
  · rw [hv] at hk
    cases hk
    exact ⟨cur, hh⟩

theorem owns_frame {X : List Nat} {w w' : World} {base : Nat} {e : TypeId} {size : Nat} {v : Value} {n : Nat} {xs : List Value} (h : w.ownsRow base e size v n xs) (hf : Frame X w w')
    (hX : ∀ k, v.ownBlock = some k → k ∉ X) : w'.ownsRow base e size v n xs :=
  owns_of_heap h fun k hk => by
    obtain ⟨cur, hc⟩ := owns_lt h hk
    exact hf.block k (lt_of_heap hc) (hX k hk)

/-- An owned slice that isn't empty, written out. -/
theorem owns_open {w : World} {base : Nat} {e : TypeId} {size : Nat} {v : Value} {n : Nat} {xs : List Value} (h : w.ownsRow base e size v n xs) (hn : 0 < n) :
    ∃ g cap cur, v = .slice (some ⟨g, 0, none⟩) n cap ∧ base ≤ g ∧ w.heap[g]? = some (.cells cur e (0, 0)) ∧ n ≤ cap ∧ cap ≤ maxLen ∧ cur.size = cap * size ∧ cur.toList.take (n * size) = xs := by
  rcases h.2 with ⟨_, h2⟩ | h2
  · omega
  · exact h2

/-- One cell of an owned slice of one-cell elements is written. -/
theorem owns_set {w : World} {e : TypeId} {g n cap : Nat} {xs : List Value} (h : w.ownsRow 0 e 1 (.slice (some ⟨g, 0, none⟩) n cap) n xs) (i : Nat) (u : Value) :
    (w.setCell ⟨g, i, none⟩ u).ownsRow 0 e 1 (.slice (some ⟨g, 0, none⟩) n cap) n (xs.set i u) := by
  rcases h.2 with ⟨h2, _⟩ | ⟨g', cap', cur, hv, hg, hh, h1, h2, h3, h4⟩
  · cases h2
  · cases hv
    refine ⟨by simpa using h.1, .inr ⟨g, cap, cur.setIfInBounds i u, rfl, hg, heap_set_same i u hh, h1, h2, by simpa using h3, ?_⟩⟩
    rw [Array.toList_setIfInBounds, ← h4, List.take_set]

/-- The cell of an element. -/
theorem owns_cell {w : World} {base : Nat} {e : TypeId} {size : Nat} {g n cap : Nat} {xs : List Value} (h : w.ownsRow base e size (.slice (some ⟨g, 0, none⟩) n cap) n xs) {j : Nat} (hj : j < n * size) :
    w.cell? ⟨g, j, none⟩ = xs[j]? := by
  rcases h.2 with ⟨h2, _⟩ | ⟨g', cap', cur, hv, hg, hh, h1, h2, h3, h4⟩
  · cases h2
  · cases hv
    rw [cell_of hh, ← h4, List.getElem?_take_of_lt hj]
    simp

/-- copy of all of one owned row over another one of as many elements. -/
theorem wpList_copy_same {P : Program} {w : World} {ops : Array Oper} {rest : List Oper} {o : Oper} {a : Act} {Q : Exit → Act → World → Prop} (hgd : o.guard = none) (d s : Operand) (t : TypeId)
    (ho : o.op = .call { callee := .builtin .copy, args := #[d, s], argTypes := #[t, t] }) (e : TypeId) (hu : P.underlying t = some (.slice e)) (hsz : (P.info? e).map (·.size) = some 1)
    (g cap g2 cap2 n : Nat) (xs ys : List Value) (hd : a.eval d = .slice (some ⟨g, 0, none⟩) n cap) (hs : a.eval s = .slice (some ⟨g2, 0, none⟩) n cap2)
    (h1 : w.ownsRow 0 e 1 (.slice (some ⟨g, 0, none⟩) n cap) n ys) (h2 : w.ownsRow 0 e 1 (.slice (some ⟨g2, 0, none⟩) n cap2) n xs) (hone : ∀ v ∈ xs, v.oneCell' = true)
    (h : ∀ w', w'.ownsRow 0 e 1 (.slice (some ⟨g, 0, none⟩) n cap) n xs → w.grownBy w' (some g) → w'.heap.size = w.heap.size → wpList P ops Q rest (a.put o.dst (goInt n)) w') : wpList P ops Q (o :: rest) a w := by
  have hlx : xs.length = n := by simpa using h2.1
  have h2c : ∀ j v, xs[j]? = some v → w.cell? ((⟨g2, 0, none⟩ : Addr).add j) = some v := h2.cells rfl
  rcases h1.2 with ⟨h0, _⟩ | ⟨g', cap', cur, hv, hg, hh, hc1, hc2, hc3, hc4⟩
  · cases h0
  · cases hv
    refine wpList_copy_own hgd d s t t ho e hu hsz g 0 n cap ⟨g2, 0, none⟩ n cap2 hd hs cur e hh xs (by rw [hlx]; exact (Nat.min_self n).symm) h2c (by omega) hone ?_
    rw [hlx]
    refine h _ ⟨h2.1, .inr ⟨g, cap, _, rfl, Nat.zero_le _, setRow_heap w g cur _ e _ hh, hc1, hc2, ?_, ?_⟩⟩ ⟨rfl, rfl, rfl, by simp, fun k _ hk => setRow_other w g k _ (fun e => hk (by simp [e]))⟩ (by simp)
    · simp only [List.size_toArray, List.length_append, List.length_take, List.length_drop, Array.length_toList]
      omega
    · simp [hlx]

/-- copy into a row that is known whole; the world behind it is a letter. -/
theorem wpList_copy_at {P : Program} {w : World} {ops : Array Oper} {rest : List Oper} {o : Oper} {a : Act} {Q : Exit → Act → World → Prop} (hgd : o.guard = none) (d s : Operand) (dT sT : TypeId)
    (ho : o.op = .call { callee := .builtin .copy, args := #[d, s], argTypes := #[dT, sT] }) (elem : TypeId) (hu : P.underlying dT = some (.slice elem)) (hsz : (P.info? elem).map (·.size) = some 1)
    (g off dLen dCap : Nat) (ad : Addr) (sLen sCap : Nat) (hd : a.eval d = .slice (some ⟨g, off, none⟩) dLen dCap) (hs : a.eval s = .slice (some ad) sLen sCap)
    (cur : Array Value) (t : TypeId) (hg : w.heap[g]? = some (.cells cur t (0, 0))) (m : Nat) (cs : List Value) (hm : cs.length = m) (hn : m = Nat.min sLen dLen)
    (hsrc : ∀ j v, cs[j]? = some v → w.cell? (ad.add j) = some v) (hfit : off + m ≤ cur.size) (h1 : ∀ v ∈ cs, v.oneCell' = true)
    (h : ∀ w', w'.heap[g]? = some (.cells (cur.toList.take off ++ (cs ++ cur.toList.drop (off + m))).toArray t (0, 0)) → w.grownBy w' (some g) → w'.heap.size = w.heap.size →
      wpList P ops Q rest (a.put o.dst (.int .i64 (m : Int))) w') : wpList P ops Q (o :: rest) a w := by
  subst hm
  refine wpList_copy_own hgd d s dT sT ho elem hu hsz g off dLen dCap ad sLen sCap hd hs cur t hg cs hn hsrc hfit h1 ?_
  exact h _ (setRow_heap w g cur _ t _ hg) ⟨rfl, rfl, rfl, by simp, fun k _ hk => setRow_other w g k _ (fun e => hk (by simp [e]))⟩ (by simp)

/-- A call's end with a result that is known by R alone. -/
def RetV (R : Value → World → Prop) (e : Ending) (w' : World) : Prop := ∃ v, e = .returned v ∧ R v w'
theorem RetV.of {v : Value} {R : Value → World → Prop} {w' : World} (hR : R v w') : RetV R (.returned v) w' := ⟨v, rfl, hR⟩

theorem addr_add (g j : Nat) : (⟨g, 0, none⟩ : Addr).add j = ⟨g, j, none⟩ := by unfold Addr.add; split <;> simp_all

theorem replicate_get {n j : Nat} {u v : Value} (h : (List.replicate n u)[j]? = some v) : j < n ∧ v = u := by
  rw [List.getElem?_replicate] at h
  split at h
  · cases h; exact ⟨by assumption, rfl⟩
  · cases h

end Go.Proofs.YtkapmpngglibjaaDoor
