/- Several texts in one: what each begins with says what it shows. Conditions: each law's own premises. -/
import Derived.Test.YtkapmpngglibjaaQ01
import Derived.RangeFuncNested
import Derived.RangeFuncBound
import Derived.RangeFuncCalls
import Derived.RangeFuncLeaves
import Derived.OrdersIn
import Derived.Test.YtkapmpngglibjaaRows
import Derived.WalkKit
import Derived.WalkSpells
import Derived.WalkLawsBesides
import Derived.Lib.Hide
import Derived.Deep.AppendLies
import Derived.Laws.CopyOwn
import Derived.Laws.AppendOwnNone
import Derived.ProofKit
import Derived.Lib.AppendZerosOnto
import Derived.Lib.Overlaps
import Derived.Laws.Externs
import Derived.Shelf.RegionOpenPlain

/- A region that draws its order, where effects may come in several orders: a tree. Conditions: those of 'wp_region_tree' below. -/
namespace Go.Proofs.Ytkapmpngglibjaa
open Go

/-! ### A tree of forks -/

inductive Tree where
  | done (plan : List Stage)
  | fork (i : Nat) (a : Tree) (j : Nat) (b : Tree)

def Tree.depth : Tree → Nat
  | .done plan => (plan.map fun s => s.1.length + s.2.1.length).sum
  | .fork _ a _ b => max a.depth b.depth + 1
def Tree.keeps : Tree → Nat → Bool
  | .done plan, j => Go.Proofs.Ytkapmpngglibjaa.keeps plan j
  | .fork _ a _ b, j => a.keeps j && b.keeps j
def Tree.own (n : Nat) (l : List Oper) : Tree → Bool
  | .done plan => plan.all (fun s => ownSlots n (picked l s.1))
  | .fork _ a _ b => a.own n l && b.own n l
def okTree (md : Region.Mode) (ops : Array Oper) (ms : List Nat) (kp : Nat → Bool) : Tree → Array Bool → Bool
  | .done plan, listed => okStages md ops ms kp plan listed
  | .fork i a j b, listed => decide (Region.ready md ops listed = [i, j]) && okTree md ops ms kp a (listed.setIfInBounds i true) && okTree md ops ms kp b (listed.setIfInBounds j true)
def wpTree (P : Program) (l : List Oper) (N : Act → World → Prop) (T : World → Prop) (n : Nat) : Tree → Act → World → Prop
  | .done plan, a, w => wpStages P l N T n plan a w
  | .fork i A j B, a, w => wpList P l.toArray (OnlyNormal fun a2 w2 => T w2 ∧ wpTree P l N T n A a2 w2) (picked l [i]) a w ∧ wpList P l.toArray (OnlyNormal fun a2 w2 => T w2 ∧ wpTree P l N T n B a2 w2) (picked l [j]) a w

section
variable {P : Program} {Q : Exit → Act → World → Prop} {md : Region.Mode} {T : World → Prop} {kp : Nat → Bool} {l : List Oper} {ms : List Nat} (hms : ∀ k i, (ms.getD k 0).testBit i = true → Waits md l.toArray k i) (hsel : Region.noSelect l.toArray = true)
  (hQ : ∀ c a d v w, Q (.panic c) (a.put d v) w → Q (.panic c) a w)
include hms hsel hQ
theorem tree_sound {n : Nat} : ∀ (t : Tree) (F : Nat) (listed : Array Bool) (a : Act) (w : World), t.depth ≤ F → HeadInv md l.toArray l.toArray.size listed → okTree md l.toArray ms kp t listed = true → t.own n l = true →
    (∀ j, t.keeps j = false → kp j = false) → wpTree P l (Q .normal) T n t a w → wpAnyT P md l.toArray Q T kp F listed a w
  | .done plan, F, listed, a, w, hF, inv, hB, hs, hkp, h => by
    have := stages_sound (Q := Q) (T := T) (kp := kp) hms hsel hQ plan (F - (plan.map fun s => s.1.length + s.2.1.length).sum) listed a w inv hB hs (fun s hs' hk i hi => hkp i (by
      show keeps plan i = false
      unfold keeps
      rw [List.all_eq_false]
      exact ⟨s, hs', by simp [Stage.loose, hk, hi]⟩)) h
    rwa [show (plan.map fun s => s.1.length + s.2.1.length).sum + (F - (plan.map fun s => s.1.length + s.2.1.length).sum) = F by simp only [Tree.depth] at hF; omega] at this
  | .fork i A j B, F, listed, a, w, hF, inv, hB, hs, hkp, h => by
    simp only [okTree, Bool.and_eq_true, decide_eq_true_eq] at hB
    obtain ⟨⟨hr, h1⟩, h2⟩ := hB
    simp only [Tree.own, Bool.and_eq_true] at hs
    simp only [Tree.depth] at hF
    obtain ⟨F', rfl⟩ : ∃ F', F = F' + 1 := ⟨F - 1, by omega⟩
    have step : ∀ (k : Nat) (K : Act → World → Prop), k ∈ Region.ready md l.toArray listed → wpList P l.toArray (OnlyNormal K) (picked l [k]) a w → wpOp P l.toArray Q k K a w := fun k K hk hw => by
      obtain ⟨_, oi, hoi, _⟩ := mem_ready.1 hk
      have hoi' : l[k]? = some oi := by simpa using hoi
      rw [show picked l [k] = [oi] by simp [picked, hoi']] at hw
      have hw' := wpOp_weaken (Q := Q) (ops := l.toArray) (i := k) (fun _ _ _ h => (h : False).elim) (fun _ _ h => (h : False).elim) (show wpOp P l.toArray _ k (wpList P l.toArray _ []) a w by unfold wpOp; simp only [hoi]; exact hw)
      exact wpOp_mono (fun a2 w2 h2 => h2) hw'
    refine ⟨fun h0 => (by rw [hr] at h0; cases h0), fun k hk => ?_⟩
    have hlt : k < l.toArray.size := by
      obtain ⟨_, oi, hoi, _⟩ := mem_ready.1 hk
      exact (Array.getElem?_eq_some_iff.1 hoi).1
    have hk' := hk
    rw [hr] at hk'
    rcases List.mem_cons.1 hk' with rfl | hk'
    · refine wpOp_mono (fun a2 w2 h3 => ⟨fun _ => h3.1, ?_⟩) (step k _ hk h.1)
      exact tree_sound A F' _ a2 w2 (by omega) (inv.set hk hlt) h1 hs.1 (fun x hx => hkp x (by simp [Tree.keeps, hx])) h3.2
    · obtain rfl := List.mem_singleton.1 hk'
      refine wpOp_mono (fun a2 w2 h3 => ⟨fun _ => h3.1, ?_⟩) (step k _ hk h.2)
      exact tree_sound B F' _ a2 w2 (by omega) (inv.set hk hlt) h2 hs.2 (fun x hx => hkp x (by simp [Tree.keeps, hx])) h3.2
end

def okTreePlan (md : Region.Mode) (l : List Oper) (n : Nat) (qs : List Nat) (t : Tree) : Bool :=
  Region.noSelect l.toArray && ownSlots n (picked l qs) && decide (qs.length + t.depth ≤ l.length) && t.own n l &&
    okFirst md l.toArray (masks md l []) t.keeps qs (Array.replicate l.length false) fun listed => okTree md l.toArray (masks md l []) t.keeps t listed

def wpTreeAt (P : Program) (l : List Oper) (N : Act → World → Prop) (T : World → Prop) (n : Nat) (qs : List Nat) (a : Act) (w : World) (t : Tree) : Prop :=
  ∃ a', T w ∧ n ≤ a.tmps.size ∧ (∀ w1, T w1 → wpStill P l.toArray w1 (fun a2 => a2 = a') (picked l qs) a) ∧ wpTree P l N T n t a' w
theorem wpTree_mk {P : Program} {l : List Oper} {N : Act → World → Prop} {T : World → Prop} {n : Nat} {qs : List Nat} {a : Act} {w : World} {t : Tree} (a' : Act) (hT : T w) (hn : n ≤ a.tmps.size)
    (hq : ∀ w1, T w1 → wpStill P l.toArray w1 (fun a2 => a2 = a') (picked l qs) a) (h : wpTree P l N T n t a' w) : wpTreeAt P l N T n qs a w t := ⟨a', hT, hn, hq, h⟩

/-- THE RULE, for a tree of forks. -/
theorem wp_region_tree {P : Program} {Q : Exit → Act → World → Prop} {id : Nat} {l : List Oper} {a : Act} {w : World} (T : World → Prop) (n : Nat) (qs : List Nat) (t : Tree) (hm : P.follows .mixedOrders = true)
    (hB : okTreePlan .any l n qs t = true) (h : wpTreeAt P l (Q .normal) T n qs a w.drew t) : (Code.region id l.toArray true).wp P Q a w := by
  obtain ⟨a', hT, hn, hq, h⟩ := h
  simp only [okTreePlan, Bool.and_eq_true, decide_eq_true_eq] at hB
  obtain ⟨⟨⟨⟨hsel, hs⟩, hlen⟩, hss⟩, hst⟩ := hB
  refine Code.wp_mono (Q := OnlyNormal (Q .normal)) (fun e a w h => by cases e <;> first | exact h | exact (h : False).elim) ?_
  refine wp_region_any hm (wpAny_of_T (T := T) (kp := t.keeps) _ _ _ _ ?_)
  have inv0 : HeadInv .any l.toArray l.toArray.size (Array.replicate l.toArray.size false) :=
    ⟨by simp, fun j oj _ hl => (by rw [getD_replicate_false] at hl; cases hl), fun t ht ht' => by omega⟩
  have hms := masks_spec (md := .any) (ops := l.toArray) l [] (by simp) (fun k hk => by simp at hk)
  have := first_sound (Q := OnlyNormal (Q .normal)) (T := T) (kp := t.keeps) (md := .any) (n := n) (fuel := l.length - qs.length) (a' := a') hms hsel (fun _ _ _ _ _ h => h) hT
    (fun listed' inv' hk => tree_sound (Q := OnlyNormal (Q .normal)) hms hsel (fun _ _ _ _ _ h => h) t (l.length - qs.length) listed' a' _ (by omega) inv' hk hss (fun _ hx => hx) h) qs
    (Array.replicate l.length false) a (by simpa using inv0) hst hs hn hq
  rw [show qs.length + (l.length - qs.length) = l.toArray.size by simp; omega] at this
  simpa using this

end Go.Proofs.Ytkapmpngglibjaa

/- A region that draws its order, in a round of a range over a function: by the plan of the plain walk. Conditions: those of 'wpIn_region_plan' below. -/
namespace Go.Proofs.Ytkapmpngglibjaa
open Go

theorem rowsIn_of {n l0 : Nat} {P : Program} {row : String} {args : Array Value} {w : World} {R : Value → World → Prop} (h : Rows P row args w R) : RowsIn (Fence.wide.inRound l0) n P row args w R :=
  fun c cs _ => let ⟨v, w', r, s⟩ := h c cs; ⟨v, w', r, stepsIn_wide.2 s⟩

theorem operIn_of {n l0 : Nat} {P : Program} {o : Oper} {a : Act} {w : World} {K : Act → World → Prop} {Q : Exit → Act → World → Prop} (hnd : ∀ c, o.op ≠ .defer c) (h : o.wp P a w K Q) : o.wpIn (Fence.wide.inRound l0) n P a w K Q := by
  refine ⟨fun _ _ => trivial, ?_⟩
  rw [Oper.semAt_eq _ _ _ hnd]
  unfold Oper.wp at h
  generalize (execOp a.eval o).run P w = r at *
  cases r with
  | ok x w' =>
    cases x <;> simp only [Oper.upon, Oper.uponIn] at h ⊢
    case value => exact h
    case skip => exact h
    case defer => exact h
    case enter => exact ⟨fun h => by simp [Fence.wide] at h, CallsIn.inRound l0 (callsIn_wide.2 h)⟩
    case row => exact ⟨fun h => by simp [Fence.wide] at h, rowsIn_of h⟩
  | halt x w' => cases x <;> simp only [Oper.upon, Oper.uponIn] at h ⊢ <;> exact h

def noDefer (l : List Oper) : Bool := l.all fun o => match o.op with | .defer _ => false | _ => true

theorem wpAnyIn_of {n l0 : Nat} {P : Program} {N : Act → World → Prop} {l : List Oper} (hnd : noDefer l = true) : ∀ (fuel : Nat) (listed : Array Bool) (a : Act) (w : World), wpAny P .any l.toArray (OnlyNormal N) fuel listed a w →
    wpAnyIn (Fence.wide.inRound l0) n P .any l.toArray (OnlyNormal N) fuel listed a w
  | 0, _, _, _, h => h
  | fuel + 1, listed, a, w, h => by
    refine ⟨h.1, fun i hi => ?_⟩
    have h1 := h.2 i hi
    unfold wpOp at h1
    unfold wpOpIn
    split
    · rename_i h0
      simp only [h0] at h1
      exact wpAnyIn_of hnd fuel _ _ _ h1
    · rename_i o h0
      simp only [h0] at h1
      split
      · rename_i hw
        simp only [hw, if_true] at h1
        rcases h1 with h1 | ⟨-, ⟨_, _, h2⟩⟩
        · refine Oper.wpIn_mono (fun a w h => wpAnyIn_of hnd fuel _ a w h) (operIn_of (fun c hc => ?_) h1)
          have := List.all_eq_true.1 hnd o (List.mem_of_getElem? (by simpa using h0))
          rw [hc] at this
          cases this
        · exact h2.elim
      · rename_i hw
        simp only [hw] at h1
        exact ⟨fun _ _ => trivial, wpAnyIn_of hnd fuel _ _ _ h1⟩

/-- The plan carried out, whatever order is picked. -/
theorem plan_any {P : Program} {N : Act → World → Prop} {l : List Oper} {a : Act} {w : World} (T : World → Prop) (n : Nat) (plan : List Stage) (hB : okPlan .any l n plan = true) (h : wpStages P l N T n plan a w) :
    wpAny P .any l.toArray (OnlyNormal N) l.toArray.size (Array.replicate l.toArray.size false) a w := by
  simp only [okPlan, Bool.and_eq_true, decide_eq_true_eq] at hB
  obtain ⟨⟨⟨hsel, hlen⟩, hs⟩, hst⟩ := hB
  refine wpAny_of_T (T := T) (kp := keeps plan) _ _ _ _ ?_
  have inv0 : HeadInv .any l.toArray l.toArray.size (Array.replicate l.toArray.size false) :=
    ⟨by simp, fun j oj _ hl => (by rw [getD_replicate_false] at hl; cases hl), fun t ht ht' => by omega⟩
  have := stages_sound (Q := OnlyNormal N) (T := T) (kp := keeps plan) (md := .any) (masks_spec l [] (by simp) (fun k hk => by simp at hk)) hsel (fun _ _ _ _ _ h => h) plan (l.length - (plan.map fun s => s.1.length + s.2.1.length).sum)
    (Array.replicate l.length false) a w (by simpa using inv0) hst hs (fun s hs' hk i hi => by
      unfold keeps
      rw [List.all_eq_false]
      exact ⟨s, hs', by simp [Stage.loose, hk, hi]⟩) h
  rw [show (plan.map fun s => s.1.length + s.2.1.length).sum + (l.length - (plan.map fun s => s.1.length + s.2.1.length).sum) = l.toArray.size by simp; omega] at this
  simpa using this

/-- THE RULE, in a round. -/
theorem wpIn_region_plan {P : Program} {Q : Exit → Act → World → Prop} {id m l0 : Nat} {l : List Oper} {a : Act} {w : World} (T : World → Prop) (n : Nat) (plan : List Stage) (hm : P.follows .mixedOrders = true) (hnd : noDefer l = true)
    (hB : okPlan .any l n plan = true) (h : wpStages P l (Q .normal) T n plan a w.drew) : (Code.region id l.toArray true).wpIn (Fence.wide.inRound l0) m P Q a w := by
  refine wpIn_mono (Q := OnlyNormal (Q .normal)) ?_ (fun e a w h => by cases e <;> first | exact h | exact (h : False).elim)
  exact wpIn_region_any hm (wpAnyIn_of hnd _ _ _ _ (plan_any T n plan hB h))

end Go.Proofs.Ytkapmpngglibjaa

/- Plain facts on memory: what a block holds behind a store, a new block, a call that touches certain blocks alone. No condition. -/
namespace Go.Proofs.Ytkapmpngglibjaa
open Go Go.RowKit

/-- A call's end: it returns v, in a world of which R holds. (A name, so that no walk looks into it.) -/
def Ret (v : Value) (R : World → Prop) (e : Ending) (w' : World) : Prop := e = .returned v ∧ R w'
theorem Ret.mk {v : Value} {R : World → Prop} {e : Ending} {w' : World} (h : e = .returned v) (hR : R w') : Ret v R e w' := ⟨h, hR⟩
theorem Ret.of {v v' : Value} {R : World → Prop} {w' : World} (h : v' = v) (hR : R w') : Ret v R (.returned v') w' := ⟨by rw [h], hR⟩

/-! ### blocks -/

theorem heap_alloc_new (w : World) (o : Obj) : (w.alloc o).heap[w.heap.size]? = some o := by
  show (w.heap.push o)[w.heap.size]? = _
  simp

theorem heap_alloc_old (w : World) (o : Obj) {k : Nat} (h : k < w.heap.size) : (w.alloc o).heap[k]? = w.heap[k]? := Below.heap_alloc w o k h

theorem heap_set_other (w : World) (a : Addr) (v : Value) {k : Nat} (h : k ≠ a.block) : (w.setCell a v).heap[k]? = w.heap[k]? := Below.heap_setCell w a v k h

theorem heap_set_same {w : World} {b : Nat} {c : Array Value} {e : TypeId} {f : Nat × Nat} (i : Nat) (v : Value) (h : w.heap[b]? = some (.cells c e f)) :
    (w.setCell ⟨b, i, none⟩ v).heap[b]? = some (.cells (c.setIfInBounds i v) e f) := by
  simp only [World.setCell, Array.getElem?_modify, h, if_true]
  rfl

theorem lt_of_heap {w : World} {b : Nat} {o : Obj} (h : w.heap[b]? = some o) : b < w.heap.size := by
  rcases Nat.lt_or_ge b w.heap.size with h' | h'
  · exact h'
  · rw [Array.getElem?_eq_none h'] at h; cases h

theorem cell_of {w : World} {b : Nat} {c : Array Value} {e : TypeId} {f : Nat × Nat} (h : w.heap[b]? = some (.cells c e f)) (i : Nat) : w.cell? ⟨b, i, none⟩ = c[i]? := by
  simp only [World.cell?, h]
  rfl

theorem frozen_of {w : World} {b : Nat} {c : Array Value} {e : TypeId} (h : w.heap[b]? = some (.cells c e (0, 0))) (i : Nat) : w.frozen? ⟨b, i, none⟩ = false := by
  simp [World.frozen?, h]

theorem size_set (w : World) (a : Addr) (v : Value) : (w.setCell a v).heap.size = w.heap.size := by simp [World.setCell]
theorem size_alloc (w : World) (o : Obj) : (w.alloc o).heap.size = w.heap.size + 1 := by
  show (w.heap.push o).size = _
  simp
theorem heap_drew (w : World) : w.drew.heap = w.heap := rfl

/-! ### 'nothing but these blocks, and new ones, has turned' -/

structure Frame (X : List Nat) (w w' : World) : Prop where
  os : w'.os = w.os
  tape : w'.tape = w.tape
  output : w'.output = w.output
  size : w.heap.size ≤ w'.heap.size
  block : ∀ k, k < w.heap.size → k ∉ X → w'.heap[k]? = w.heap[k]?

namespace Frame
theorem refl (X : List Nat) (w : World) : Frame X w w := ⟨rfl, rfl, rfl, Nat.le_refl _, fun _ _ _ => rfl⟩
theorem then' {X Y : List Nat} {w w1 w2 : World} (h : Frame X w w1) (k : Frame Y w1 w2) (hY : ∀ b ∈ Y, b ∈ X ∨ w.heap.size ≤ b) : Frame X w w2 :=
  ⟨k.os.trans h.os, k.tape.trans h.tape, k.output.trans h.output, Nat.le_trans h.size k.size, fun i hi hX =>
    (k.block i (Nat.lt_of_lt_of_le hi h.size) (fun hc => (hY i hc).elim hX (fun hge => by omega))).trans (h.block i hi hX)⟩
theorem trans {X : List Nat} {w w1 w2 : World} (h : Frame X w w1) (k : Frame X w1 w2) : Frame X w w2 := h.then' k fun _ hb => .inl hb
theorem mono {X Y : List Nat} {w w' : World} (h : Frame X w w') (hXY : ∀ k ∈ X, k ∈ Y) : Frame Y w w' := ⟨h.os, h.tape, h.output, h.size, fun k hk hn => h.block k hk fun hc => hn (hXY k hc)⟩
theorem drew {X : List Nat} {a w : World} (h : Frame X a w) : Frame X a w.drew := ⟨h.os, h.tape, h.output, h.size, h.block⟩
theorem drew' {X : List Nat} {a w : World} (h : Frame X a.drew w) : Frame X a w := ⟨h.os, h.tape, h.output, h.size, h.block⟩
theorem alloc {X : List Nat} {a w : World} (h : Frame X a w) (o : Obj) : Frame X a (w.alloc o) :=
  h.trans ⟨rfl, rfl, rfl, by rw [size_alloc]; omega, fun _ hk _ => heap_alloc_old _ _ hk⟩
theorem set {X : List Nat} {a w : World} (h : Frame X a w) {p : Addr} (hp : p.block ∈ X ∨ a.heap.size ≤ p.block) (u : Value) : Frame X a (w.setCell p u) :=
  h.then' (Y := [p.block]) ⟨rfl, rfl, rfl, by rw [size_set]; exact Nat.le_refl _, fun _ _ hn => heap_set_other _ _ _ (by simpa using hn)⟩ (by simpa using hp)
theorem grown {X : List Nat} {a w w' : World} {row : Option Nat} (h : Frame X a w) (hg : w.grownBy w' row) (hr : ∀ k, row = some k → k ∈ X ∨ a.heap.size ≤ k) : Frame X a w' :=
  h.then' (Y := row.toList) ⟨hg.os, hg.tape, hg.output, hg.size, fun k hk hn => hg.block k hk (fun e => hn (by simp [← e]))⟩ (fun b hb => hr b (by simpa using hb))
theorem of_below {w w' : World} (X : List Nat) (h : Below w.heap.size w w') : Frame X w w' := ⟨h.os, h.tape, h.output, h.size, fun k hk _ => h.block k hk⟩
theorem below {X : List Nat} {w w' : World} (h : Frame X w w') {B : Nat} (hB : B ≤ w.heap.size) (hX : ∀ k ∈ X, B ≤ k) : Below B w w' :=
  ⟨h.os, h.tape, h.output, h.size, fun k hk => h.block k (by omega) (fun hc => by have := hX k hc; omega)⟩
theorem heap {X : List Nat} {w w' : World} (h : Frame X w w') {b : Nat} {o : Obj} (hb : w.heap[b]? = some o) (hX : b ∉ X) : w'.heap[b]? = some o := (h.block b (lt_of_heap hb) hX).trans hb
theorem cell {X : List Nat} {w w' : World} (h : Frame X w w') {a : Addr} {v : Value} (hb : w.cell? a = some v) (hX : a.block ∉ X) : w'.cell? a = some v :=
  (World.cell?_of_block (h.block a.block (World.block_lt_of_cell? w a hb) hX)).trans hb
theorem frozen {X : List Nat} {w w' : World} (h : Frame X w w') {a : Addr} (ha : a.block < w.heap.size) (hX : a.block ∉ X) : w'.frozen? a = w.frozen? a := World.frozen?_of_block (h.block a.block ha hX)
end Frame

/-- The blocks of Y are of X, or new behind w. -/
def Fresh (w : World) (X Y : List Nat) : Prop := ∀ k ∈ Y, k ∈ X ∨ w.heap.size ≤ k
theorem Fresh.refl (w : World) (X : List Nat) : Fresh w X X := fun _ h => .inl h
theorem Fresh.trans {w w1 : World} {X Y Z : List Nat} (h : Fresh w X Y) (k : Fresh w1 Y Z) (hs : w.heap.size ≤ w1.heap.size) : Fresh w X Z :=
  fun b hb => (k b hb).elim (h b) fun hge => .inr (Nat.le_trans hs hge)

/-! ### slices that a call owns -/

theorem owns_of_heap {w w' : World} {base : Nat} {e : TypeId} {size : Nat} {v : Value} {n : Nat} {xs : List Value} (h : w.ownsRow base e size v n xs)
    (hb : ∀ k, v.ownBlock = some k → w'.heap[k]? = w.heap[k]?) : w'.ownsRow base e size v n xs := by
  obtain ⟨h1, h2⟩ := h
  refine ⟨h1, ?_⟩
  rcases h2 with h2 | ⟨g, cap, cur, hv, hg, hh, r⟩
  · exact .inl h2
  · exact .inr ⟨g, cap, cur, hv, hg, by rw [hb g (by rw [hv]; rfl)]; exact hh, r⟩

theorem owns_zero {w : World} {base : Nat} {e : TypeId} {size : Nat} {v : Value} {n : Nat} {xs : List Value} (h : w.ownsRow base e size v n xs) : w.ownsRow 0 e size v n xs :=
  ⟨h.1, h.2.imp id (fun ⟨g, cap, cur, a, _, c⟩ => ⟨g, cap, cur, a, Nat.zero_le _, c⟩)⟩

theorem owns_lt {w : World} {base : Nat} {e : TypeId} {size : Nat} {v : Value} {n : Nat} {xs : List Value} (h : w.ownsRow base e size v n xs) {k : Nat} (hk : v.ownBlock = some k) :
    ∃ cur, w.heap[k]? = some (.cells cur e (0, 0)) := by
  rcases h.2 with ⟨h2, _⟩ | ⟨g, cap, cur, hv, hg, hh, r⟩
  · rw [h2] at hk; cases hk
  · rw [hv] at hk
    cases hk
    exact ⟨cur, hh⟩

theorem owns_frame {X : List Nat} {w w' : World} {base : Nat} {e : TypeId} {size : Nat} {v : Value} {n : Nat} {xs : List Value} (h : w.ownsRow base e size v n xs) (hf : Frame X w w')
    (hX : ∀ k, v.ownBlock = some k → k ∉ X) : w'.ownsRow base e size v n xs :=
  owns_of_heap h fun k hk => by
    obtain ⟨cur, hc⟩ := owns_lt h hk
    exact hf.block k (lt_of_heap hc) (hX k hk)

/-- An owned slice that isn't empty, written out. -/
theorem owns_open {w : World} {base : Nat} {e : TypeId} {size : Nat} {v : Value} {n : Nat} {xs : List Value} (h : w.ownsRow base e size v n xs) (hn : 0 < n) :
    ∃ g cap cur, v = .slice (some ⟨g, 0, none⟩) n cap ∧ base ≤ g ∧ w.heap[g]? = some (.cells cur e (0, 0)) ∧ n ≤ cap ∧ cap ≤ maxLen ∧ cur.size = cap * size ∧ cur.toList.take (n * size) = xs := by
  rcases h.2 with ⟨_, h2⟩ | h2
  · omega
  · exact h2

/-- One cell of an owned slice of one-cell elements is written. -/
theorem owns_set {w : World} {e : TypeId} {g n cap : Nat} {xs : List Value} (h : w.ownsRow 0 e 1 (.slice (some ⟨g, 0, none⟩) n cap) n xs) (i : Nat) (u : Value) :
    (w.setCell ⟨g, i, none⟩ u).ownsRow 0 e 1 (.slice (some ⟨g, 0, none⟩) n cap) n (xs.set i u) := by
  rcases h.2 with ⟨h2, _⟩ | ⟨g', cap', cur, hv, hg, hh, h1, h2, h3, h4⟩
  · cases h2
  · cases hv
    refine ⟨by simpa using h.1, .inr ⟨g, cap, cur.setIfInBounds i u, rfl, hg, heap_set_same i u hh, h1, h2, by simpa using h3, ?_⟩⟩
    rw [Array.toList_setIfInBounds, ← h4, List.take_set]

/-- The cell of an element. -/
theorem owns_cell {w : World} {base : Nat} {e : TypeId} {size : Nat} {g n cap : Nat} {xs : List Value} (h : w.ownsRow base e size (.slice (some ⟨g, 0, none⟩) n cap) n xs) {j : Nat} (hj : j < n * size) :
    w.cell? ⟨g, j, none⟩ = xs[j]? := by
  rcases h.2 with ⟨h2, _⟩ | ⟨g', cap', cur, hv, hg, hh, h1, h2, h3, h4⟩
  · cases h2
  · cases hv
    rw [cell_of hh, ← h4, List.getElem?_take_of_lt hj]
    simp

/-- copy of all of one owned row over another one of as many elements. -/
theorem wpList_copy_same {P : Program} {w : World} {ops : Array Oper} {rest : List Oper} {o : Oper} {a : Act} {Q : Exit → Act → World → Prop} (hgd : o.guard = none) (d s : Operand) (t : TypeId)
    (ho : o.op = .call { callee := .builtin .copy, args := #[d, s], argTypes := #[t, t] }) (e : TypeId) (hu : P.underlying t = some (.slice e)) (hsz : (P.info? e).map (·.size) = some 1)
    (g cap g2 cap2 n : Nat) (xs ys : List Value) (hd : a.eval d = .slice (some ⟨g, 0, none⟩) n cap) (hs : a.eval s = .slice (some ⟨g2, 0, none⟩) n cap2)
    (h1 : w.ownsRow 0 e 1 (.slice (some ⟨g, 0, none⟩) n cap) n ys) (h2 : w.ownsRow 0 e 1 (.slice (some ⟨g2, 0, none⟩) n cap2) n xs) (hone : ∀ v ∈ xs, v.oneCell' = true)
    (h : ∀ w', w'.ownsRow 0 e 1 (.slice (some ⟨g, 0, none⟩) n cap) n xs → w.grownBy w' (some g) → w'.heap.size = w.heap.size → wpList P ops Q rest (a.put o.dst (goInt n)) w') : wpList P ops Q (o :: rest) a w := by
  have hlx : xs.length = n := by simpa using h2.1
  have h2c : ∀ j v, xs[j]? = some v → w.cell? ((⟨g2, 0, none⟩ : Addr).add j) = some v := h2.cells rfl
  rcases h1.2 with ⟨h0, _⟩ | ⟨g', cap', cur, hv, hg, hh, hc1, hc2, hc3, hc4⟩
  · cases h0
  · cases hv
    refine wpList_copy_own hgd d s t t ho e hu hsz g 0 n cap ⟨g2, 0, none⟩ n cap2 hd hs cur e hh xs (by rw [hlx]; exact (Nat.min_self n).symm) h2c (by omega) hone ?_
    rw [hlx]
    refine h _ ⟨h2.1, .inr ⟨g, cap, _, rfl, Nat.zero_le _, setRow_heap w g cur _ e _ hh, hc1, hc2, ?_, ?_⟩⟩ ⟨rfl, rfl, rfl, by simp, fun k _ hk => setRow_other w g k _ (fun e => hk (by simp [e]))⟩ (by simp)
    · simp only [List.size_toArray, List.length_append, List.length_take, List.length_drop, Array.length_toList]
      omega
    · simp [hlx]

/-- copy into a row that is known whole; the world behind it is a letter. -/
theorem wpList_copy_at {P : Program} {w : World} {ops : Array Oper} {rest : List Oper} {o : Oper} {a : Act} {Q : Exit → Act → World → Prop} (hgd : o.guard = none) (d s : Operand) (dT sT : TypeId)
    (ho : o.op = .call { callee := .builtin .copy, args := #[d, s], argTypes := #[dT, sT] }) (elem : TypeId) (hu : P.underlying dT = some (.slice elem)) (hsz : (P.info? elem).map (·.size) = some 1)
    (g off dLen dCap : Nat) (ad : Addr) (sLen sCap : Nat) (hd : a.eval d = .slice (some ⟨g, off, none⟩) dLen dCap) (hs : a.eval s = .slice (some ad) sLen sCap)
    (cur : Array Value) (t : TypeId) (hg : w.heap[g]? = some (.cells cur t (0, 0))) (m : Nat) (cs : List Value) (hm : cs.length = m) (hn : m = Nat.min sLen dLen)
    (hsrc : ∀ j v, cs[j]? = some v → w.cell? (ad.add j) = some v) (hfit : off + m ≤ cur.size) (h1 : ∀ v ∈ cs, v.oneCell' = true)
    (h : ∀ w', w'.heap[g]? = some (.cells (cur.toList.take off ++ (cs ++ cur.toList.drop (off + m))).toArray t (0, 0)) → w.grownBy w' (some g) → w'.heap.size = w.heap.size →
      wpList P ops Q rest (a.put o.dst (.int .i64 (m : Int))) w') : wpList P ops Q (o :: rest) a w := by
  subst hm
  refine wpList_copy_own hgd d s dT sT ho elem hu hsz g off dLen dCap ad sLen sCap hd hs cur t hg cs hn hsrc hfit h1 ?_
  exact h _ (setRow_heap w g cur _ t _ hg) ⟨rfl, rfl, rfl, by simp, fun k _ hk => setRow_other w g k _ (fun e => hk (by simp [e]))⟩ (by simp)

/-- A call's end with a result that is known by R alone. -/
def RetV (R : Value → World → Prop) (e : Ending) (w' : World) : Prop := ∃ v, e = .returned v ∧ R v w'
theorem RetV.of {v : Value} {R : Value → World → Prop} {w' : World} (hR : R v w') : RetV R (.returned v) w' := ⟨v, rfl, hR⟩

theorem addr_add (g j : Nat) : (⟨g, 0, none⟩ : Addr).add j = ⟨g, j, none⟩ := by unfold Addr.add; split <;> simp_all

theorem replicate_get {n j : Nat} {u v : Value} (h : (List.replicate n u)[j]? = some v) : j < n ∧ v = u := by
  rw [List.getElem?_replicate] at h
  split at h
  · cases h; exact ⟨by assumption, rfl⟩
  · cases h

end Go.Proofs.Ytkapmpngglibjaa

/- Laws on slices of elements of any number of cells, in a block that is known whole: copy, clear, append within the room, append of noughts. No condition beyond each law's own. -/
namespace Go.Proofs.Ytkapmpngglibjaa
open Go Go.RowKit

/-- cs laid over l from place off on. -/
def lay (l : List Value) (off : Nat) (cs : List Value) : List Value := l.take off ++ (cs ++ l.drop (off + cs.length))

theorem lay_length (l : List Value) (off : Nat) (cs : List Value) (h : off + cs.length ≤ l.length) : (lay l off cs).length = l.length := by
  simp only [lay, List.length_append, List.length_take, List.length_drop]
  omega

theorem lay_nil (l : List Value) (off : Nat) : lay l off [] = l := by simp [lay]

theorem run_copyK {P : Program} (w : World) (dT sT ty elem : TypeId) (s : Nat) (g o dLen dCap : Nat) (a : Addr) (sLen sCap : Nat) (cur : List Value) (t : TypeId) (cs : List Value)
    (hu : P.underlying dT = some (.slice elem)) (hs : (P.info? elem).map (·.size) = some s)
    (hg : w.heap[g]? = some (.cells cur.toArray t (0, 0))) (hn : cs.length = Nat.min sLen dLen * s)
    (hsrc : ∀ j v, cs[j]? = some v → w.cell? (a.add j) = some v) (hfit : o + cs.length ≤ cur.length) (h1 : ∀ v ∈ cs, v.oneCell' = true) :
    (Builtin.copy_ #[dT, sT] ty #[.slice (some ⟨g, o, none⟩) dLen dCap, .slice (some a) sLen sCap]).run P w = .ok (goInt (Nat.min sLen dLen)) (w.setRow g (lay cur o cs).toArray) := by
  have hl := run_loadCells_list (P := P) w a cs hsrc
  have hst := run_storeCells_at P g o t cs 0 cur.toArray w hg (by simpa using hfit) h1
  cases hq : P.info? elem with
  | none => simp [hq] at hs
  | some i =>
    have hi : i.size = s := by simpa [hq] using hs
    simp [Builtin.copy_, run_underlying hu, Builtin.lenOf, Builtin.firstCells, sizeOf, typeInfo, hq, hi, ← hn, hl, hst, lay]

theorem run_copyK_none {P : Program} (w : World) (dT sT ty elem : TypeId) (s : Nat) (d a : Option Addr) (dLen dCap sLen sCap : Nat) (hu : P.underlying dT = some (.slice elem)) (hs : (P.info? elem).map (·.size) = some s) (hn : Nat.min sLen dLen = 0) :
    (Builtin.copy_ #[dT, sT] ty #[.slice d dLen dCap, .slice a sLen sCap]).run P w = .ok (goInt 0) w := by
  cases hq : P.info? elem with
  | none => simp [hq] at hs
  | some i =>
    have hl : ∀ (x : Addr), (loadCells x 0).run P w = .ok #[] w := fun x => by simpa using run_loadCells_list (P := P) w x [] (by simp)
    cases d <;> cases a <;> simp [Builtin.copy_, run_underlying hu, Builtin.lenOf, Builtin.firstCells, sizeOf, typeInfo, hq, hn, storeCells, hl]

theorem frame_setRow (w : World) (g : Nat) (cs : Array Value) : Frame [g] w (w.setRow g cs) :=
  ⟨rfl, rfl, rfl, by simp, fun k _ hk => setRow_other w g k _ (by simpa using hk)⟩

/-- copy, wherever its two sides lie: what goes over is cs. -/
theorem wpList_copyK {P : Program} {w : World} {ops : Array Oper} {rest : List Oper} {o : Oper} {a : Act} {Q : Exit → Act → World → Prop} (hgd : o.guard = none) (d s : Operand) (dT sT : TypeId)
    (ho : o.op = .call { callee := .builtin .copy, args := #[d, s], argTypes := #[dT, sT] }) (elem : TypeId) (sz : Nat) (hu : P.underlying dT = some (.slice elem)) (hsz : (P.info? elem).map (·.size) = some sz)
    (dp sp : Option Addr) (dLen dCap sLen sCap : Nat) (hd : a.eval d = .slice dp dLen dCap) (hs : a.eval s = .slice sp sLen sCap)
    (g off : Nat) (cur : List Value) (t : TypeId) (hg : w.heap[g]? = some (.cells cur.toArray t (0, 0))) (n : Nat) (hnn : Nat.min sLen dLen = n) (cs : List Value) (hn : cs.length = n * sz)
    (hpos : 0 < n → dp = some ⟨g, off, none⟩ ∧ ∃ ad, sp = some ad ∧ ∀ j v, cs[j]? = some v → w.cell? (ad.add j) = some v)
    (hfit : off + cs.length ≤ cur.length) (h1 : ∀ v ∈ cs, v.oneCell' = true)
    (h : ∀ w', w'.heap[g]? = some (.cells (lay cur off cs).toArray t (0, 0)) → Frame [g] w w' → w'.heap.size = w.heap.size → wpList P ops Q rest (a.put o.dst (goInt n)) w') :
    wpList P ops Q (o :: rest) a w := by
  refine wpList_plain hgd fun K hK => ?_
  by_cases h00 : n = 0
  · subst h00
    obtain rfl : cs = [] := List.eq_nil_of_length_eq_zero (by simpa using hn)
    have hrun := run_copyK_none (P := P) w dT sT o.type elem sz dp sp dLen dCap sLen sCap hu hsz hnn
    unfold Oper.wp
    simp [execOp, ho, resolve, invoke, builtin, hd, hs, hrun, Result.andThen]
    exact hK _ _ (h w (by rw [lay_nil]; exact hg) (Frame.refl _ _) rfl)
  · obtain ⟨rfl, ad, rfl, hsrc⟩ := hpos (by omega)
    have hrun := run_copyK (P := P) w dT sT o.type elem sz g off dLen dCap ad sLen sCap cur t cs hu hsz hg (by rw [hnn]; exact hn) hsrc hfit h1
    rw [hnn] at hrun
    unfold Oper.wp
    simp [execOp, ho, resolve, invoke, builtin, hd, hs, hrun, Result.andThen]
    exact hK _ _ (h _ (setRow_heap w g _ _ t _ hg) (frame_setRow w g _) (by simp))

theorem run_clearK {P : Program} (w : World) (t e ty : TypeId) (z : Value) (ht : P.underlying t = some (.slice e)) (hv : ∀ w, (zeroValue e).run P w = .ok z w) (g off n c : Nat) (cur : List Value) (te : TypeId)
    (hg : w.heap[g]? = some (.cells cur.toArray te (0, 0))) (hn : 0 < n) (zs : List Value) (hz : (Builtin.zeroCells z.cells n).toList = zs) (hfit : off + zs.length ≤ cur.length) (h1 : ∀ v ∈ zs, v.oneCell' = true) :
    (Builtin.clear_ #[t] ty #[.slice (some ⟨g, off, none⟩) n c]).run P w = .ok (.tuple #[]) (w.setRow g (lay cur off zs).toArray) := by
  have hst := run_storeCells_at P g off te zs 0 cur.toArray w hg (by simpa using hfit) h1
  obtain ⟨m, rfl⟩ : ∃ m, n = m + 1 := ⟨n - 1, by omega⟩
  simp [Builtin.clear_, run_underlying ht, hv, hz, hst, lay]

theorem run_clear_empty {P : Program} (w : World) (t e ty : TypeId) (ht : P.underlying t = some (.slice e)) (d : Option Addr) (c : Nat) :
    (Builtin.clear_ #[t] ty #[.slice d 0 c]).run P w = .ok (.tuple #[]) w := by
  cases d <;> simp [Builtin.clear_, run_underlying ht]

/-- clear of n elements at a place of a block that is known whole. -/
theorem wpList_clearK {P : Program} {w : World} {ops : Array Oper} {rest : List Oper} {o : Oper} {a : Act} {Q : Exit → Act → World → Prop} (hgd : o.guard = none) (s : Operand) (t : TypeId)
    (ho : o.op = .call { callee := .builtin .clear, args := #[s], argTypes := #[t] }) (e : TypeId) (z : Value) (ht : P.underlying t = some (.slice e)) (hv : ∀ w, (zeroValue e).run P w = .ok z w)
    (dp : Option Addr) (n c : Nat) (hs : a.eval s = .slice dp n c) (g off : Nat) (cur : List Value) (te : TypeId) (hg : w.heap[g]? = some (.cells cur.toArray te (0, 0)))
    (zs : List Value) (hz : (Builtin.zeroCells z.cells n).toList = zs) (hdp : 0 < n → dp = some ⟨g, off, none⟩) (hfit : off + zs.length ≤ cur.length) (h1 : ∀ v ∈ zs, v.oneCell' = true)
    (h : ∀ w', w'.heap[g]? = some (.cells (lay cur off zs).toArray te (0, 0)) → Frame [g] w w' → w'.heap.size = w.heap.size → wpList P ops Q rest (a.put o.dst (.tuple #[])) w') :
    wpList P ops Q (o :: rest) a w := by
  refine wpList_plain hgd fun K hK => ?_
  by_cases h00 : n = 0
  · subst h00
    obtain rfl : zs = [] := by rw [← hz]; simp [Builtin.zeroCells]
    have hrun := run_clear_empty (P := P) w t e o.type ht dp c
    unfold Oper.wp
    simp [execOp, ho, resolve, invoke, builtin, hs, hrun, Result.andThen]
    exact hK _ _ (h w (by rw [lay_nil]; exact hg) (Frame.refl _ _) rfl)
  · obtain rfl := hdp (by omega)
    have hrun := run_clearK (P := P) w t e o.type z ht hv g off n c cur te hg (by omega) zs hz hfit h1
    unfold Oper.wp
    simp [execOp, ho, resolve, invoke, builtin, hs, hrun, Result.andThen]
    exact hK _ _ (h _ (setRow_heap w g _ _ te _ hg) (frame_setRow w g _) (by simp))

theorem run_append_roomK {P : Program} (w : World) (t ty e : TypeId) (sz : Nat) (ht : P.underlying t = some (.slice e)) (hs : (P.info? e).map (·.size) = some sz)
    (g sLen sCap : Nat) (cur : List Value) (te : TypeId) (hg : w.heap[g]? = some (.cells cur.toArray te (0, 0))) (a : Addr) (m c : Nat) (cs : List Value) (hl : cs.length = m * sz)
    (hsrc : ∀ j u, cs[j]? = some u → w.cell? (a.add j) = some u) (h1 : ∀ u ∈ cs, u.oneCell' = true) (hroom : sLen + m ≤ sCap) (hfit : sLen * sz + cs.length ≤ cur.length) :
    (Builtin.append_ #[t, t] ty #[.slice (some ⟨g, 0, none⟩) sLen sCap, .slice (some a) m c]).run P w = .ok (.slice (some ⟨g, 0, none⟩) (sLen + m) sCap) (w.setRow g (lay cur (sLen * sz) cs).toArray) := by
  cases hq : P.info? e with
  | none => simp [hq] at hs
  | some i =>
    have hi : i.size = sz := by simpa [hq] using hs
    have hf := run_firstCells_some (P := P) w i.size m a m c cs (by rw [hi]; exact hl) hsrc
    have hst := run_storeCells_at P g (sLen * sz) te cs 0 cur.toArray w hg (by simpa using hfit) h1
    simp only [Nat.add_zero] at hst
    rw [hi] at hf
    simp [Builtin.append_, run_underlying ht, sizeOf, typeInfo, hq, hi, Builtin.lenOf, hroom, hf, Addr.add_lit, hst, lay]

theorem run_append_roomK_none {P : Program} (w : World) (t ty e : TypeId) (sz : Nat) (ht : P.underlying t = some (.slice e)) (hs : (P.info? e).map (·.size) = some sz)
    (d x : Option Addr) (sLen sCap c : Nat) (hroom : sLen ≤ sCap) :
    (Builtin.append_ #[t, t] ty #[.slice d sLen sCap, .slice x 0 c]).run P w = .ok (.slice d sLen sCap) w := by
  cases hq : P.info? e with
  | none => simp [hq] at hs
  | some i =>
    have hl : ∀ (x : Addr), (loadCells x 0).run P w = .ok #[] w := fun x => by simpa using run_loadCells_list (P := P) w x [] (by simp)
    cases d <;> cases x <;> simp [Builtin.append_, run_underlying ht, sizeOf, typeInfo, hq, Builtin.lenOf, hroom, Builtin.firstCells, storeCells, hl]

/-- append within the room, to the head of a block that is known whole: what is appended is cs, wherever it lies. -/
theorem wpList_append_roomK {P : Program} {w : World} {ops : Array Oper} {rest : List Oper} {o : Oper} {a : Act} {Q : Exit → Act → World → Prop} (hgd : o.guard = none) (s x : Operand) (t : TypeId)
    (ho : o.op = .call { callee := .builtin .append, args := #[s, x], argTypes := #[t, t] }) (e : TypeId) (sz : Nat) (ht : P.underlying t = some (.slice e)) (hsz : (P.info? e).map (·.size) = some sz)
    (g sLen sCap : Nat) (hs : a.eval s = .slice (some ⟨g, 0, none⟩) sLen sCap) (sp : Option Addr) (m c : Nat) (hx : a.eval x = .slice sp m c)
    (cur : List Value) (te : TypeId) (hg : w.heap[g]? = some (.cells cur.toArray te (0, 0))) (cs : List Value) (hl : cs.length = m * sz)
    (hsrc : 0 < m → ∃ ad, sp = some ad ∧ ∀ j u, cs[j]? = some u → w.cell? (ad.add j) = some u) (h1 : ∀ u ∈ cs, u.oneCell' = true) (N : Nat) (hN : sLen + m = N) (hroom : N ≤ sCap) (hfit : sLen * sz + cs.length ≤ cur.length)
    (h : ∀ w', w'.heap[g]? = some (.cells (lay cur (sLen * sz) cs).toArray te (0, 0)) → Frame [g] w w' → w'.heap.size = w.heap.size → wpList P ops Q rest (a.put o.dst (.slice (some ⟨g, 0, none⟩) N sCap)) w') :
    wpList P ops Q (o :: rest) a w := by
  subst hN
  refine wpList_plain hgd fun K hK => ?_
  by_cases h00 : m = 0
  · subst h00
    obtain rfl : cs = [] := List.eq_nil_of_length_eq_zero (by simpa using hl)
    have hrun := run_append_roomK_none (P := P) w t o.type e sz ht hsz (some ⟨g, 0, none⟩) sp sLen sCap c (by omega)
    unfold Oper.wp
    simp [execOp, ho, resolve, invoke, builtin, hs, hx, hrun, Result.andThen]
    exact hK _ _ (h w (by rw [lay_nil]; exact hg) (Frame.refl _ _) rfl)
  · obtain ⟨ad, rfl, hsrc'⟩ := hsrc (by omega)
    have hrun := run_append_roomK (P := P) w t o.type e sz ht hsz g sLen sCap cur te hg ad m c cs hl hsrc' h1 hroom hfit
    unfold Oper.wp
    simp [execOp, ho, resolve, invoke, builtin, hs, hx, hrun, Result.andThen]
    exact hK _ _ (h _ (setRow_heap w g _ _ te _ hg) (frame_setRow w g _) (by simp))

/-- append of k noughts ('make') where there is no room: a new block. -/
theorem wpList_append_zerosK {P : Program} {w : World} {ops : Array Oper} {rest : List Oper} {o : Oper} {a : Act} {Q : Exit → Act → World → Prop} (hgd : o.guard = none) (s x : Operand) (t tn : TypeId)
    (ho : o.op = .call { callee := .builtin .append, args := #[s, x], argTypes := #[t, tn] }) (e : TypeId) (i : TypeInfo) (z : Value) (sz bytes : Nat) (kq kn : IntKind) (ht : P.underlying t = some (.slice e)) (htn : P.underlying tn = some (.int kn))
    (hi : P.info? e = some i) (hz : i.zero = some z) (hsize : i.size = sz) (hby : i.bytes = bytes) (hzs : z.cells.size = sz) (h0 : 0 < sz)
    (ad : Addr) (sLen sCap k : Nat) (hs : a.eval s = .slice (some ad) sLen sCap) (hx : a.eval x = .int kq (k : Int)) (olds : List Value) (hlo : olds.length = sLen * sz) (hold : ∀ j u, olds[j]? = some u → w.cell? (ad.add j) = some u)
    (hk : 0 < k) (N : Nat) (hN : sLen + k = N) (hfull : sCap < N) (h63 : N ≤ maxLen) (hbytes : N * bytes ≤ 140737488355328)
    (h : ∀ cap tail w', N ≤ cap → cap ≤ maxLen → tail.length + olds.length = cap * sz → w'.heap[w.heap.size]? = some (.cells (olds ++ tail).toArray e (0, 0)) → Frame [] w w' → w'.heap.size = w.heap.size + 1 →
      wpList P ops Q rest (a.put o.dst (.slice (some ⟨w.heap.size, 0, none⟩) N cap)) w') :
    wpList P ops Q (o :: rest) a w := by
  subst hN
  subst hsize
  subst hby
  refine wpList_plain hgd fun K hK => ?_
  have hf := run_firstCells_some (P := P) w.drew i.size sLen ad sLen sCap olds hlo hold
  have hlt : (sLen + k) * i.bytes = sLen * i.bytes + k * i.bytes := Nat.add_mul ..
  have hrun := Lib.run_append_grow_zeros (P := P) w t tn o.type e i z kq kn ht htn hi hz (some ad) sLen sCap olds hf k hk (by omega) hfull (by unfold maxLen at h63; omega) (by omega) (growslice_fits hfull hbytes)
  have hge := grownCap_ge w (sLen + k) sCap e
  have hcm : grownCap w (sLen + k) sCap e ≤ maxLen := grownCap_le_maxLen w (sLen + k) sCap e h63
  unfold Oper.wp
  simp [execOp, ho, resolve, invoke, builtin, hs, hx, hrun, Result.andThen]
  refine hK _ _ (h _ ((Builtin.zeroCells z.cells k).toList ++ (Builtin.zeroCells z.cells (grownCap w (sLen + k) sCap e - (sLen + k))).toList) _ hge hcm ?_ ?_ ?_ ?_)
  · simp only [List.length_append, Array.length_toList, size_zeroCells, hzs, hlo, ← Nat.add_mul]
    congr 1
    omega
  · have := heap_alloc_new w.drew (.cells (olds.toArray ++ (Builtin.zeroCells z.cells k ++ Builtin.zeroCells z.cells (grownCap w (sLen + k) sCap e - (sLen + k)))) e)
    rw [heap_drew] at this
    rw [this]
    congr 2
    apply Array.ext'
    simp
  · exact ((Frame.refl [] w).drew).alloc _
  · rw [size_alloc, heap_drew]

/-- append to an owned slice of whatever slice, an empty one or nil too. -/
theorem wpList_append_any {P : Program} {w : World} {ops : Array Oper} {rest : List Oper} {o : Oper} {a : Act} {Q : Exit → Act → World → Prop} (hgd : o.guard = none) (s x : Operand) (t : TypeId)
    (ho : o.op = .call { callee := .builtin .append, args := #[s, x], argTypes := #[t, t] }) (base : Nat) (e : TypeId) (i : TypeInfo) (z : Value) (size bytes : Nat) (ht : P.underlying t = some (.slice e))
    (hi : P.info? e = some i) (hz : i.zero = some z) (hsize : i.size = size) (hby : i.bytes = bytes) (hzs : z.cells.size = size) (hsz : 0 < size)
    (v : Value) (n : Nat) (xs : List Value) (hs : a.eval s = v) (hown : w.ownsRow base e size v n xs) (sp : Option Addr) (m c : Nat) (news : List Value) (hx : a.eval x = .slice sp m c) (hl : news.length = m * size)
    (hnews : 0 < m → ∃ ad, sp = some ad ∧ ∀ j u, news[j]? = some u → w.cell? (ad.add j) = some u) (h1 : ∀ u ∈ news, u.oneCell' = true)
    (N : Nat) (hN : n + m = N) (h63 : N ≤ maxLen) (hbytes : N * bytes ≤ 140737488355328) (hbase : base ≤ w.heap.size)
    (h : ∀ v' w', w'.ownsRow base e size v' N (xs ++ news) → w.grownBy w' v.ownBlock → (v'.ownBlock = v.ownBlock ∨ v'.ownBlock = some w.heap.size) → wpList P ops Q rest (a.put o.dst v') w') :
    wpList P ops Q (o :: rest) a w := by
  subst hN
  refine wpList_plain hgd fun K hK => ?_
  by_cases h00 : m = 0
  · subst h00
    obtain rfl : news = [] := List.eq_nil_of_length_eq_zero (by simpa using hl)
    have hform : ∃ d cap, v = .slice d n cap ∧ n ≤ cap := by
      rcases hown.2 with ⟨h1, h2⟩ | ⟨g, cap, cur, h1, -, -, h2, -⟩
      · exact ⟨none, 0, by rw [h1, h2], by omega⟩
      · exact ⟨_, _, h1, h2⟩
    obtain ⟨d, cap, rfl, hle⟩ := hform
    have hrun := run_append_roomK_none (P := P) w t o.type e size ht (by rw [hi]; simp [hsize]) d sp n cap c hle
    unfold Oper.wp
    simp [execOp, ho, resolve, invoke, builtin, hs, hx, hrun, Result.andThen]
    exact hK _ _ (h _ w (by simpa using hown) (World.grownBy.refl _ _) (.inl rfl))
  · obtain ⟨ad, rfl, hc⟩ := hnews (by omega)
    obtain ⟨v', w', hr, h2, h3, _, h5⟩ := run_append_own_at (P := P) w base t o.type e i z size bytes ht hi hz hsize hby hzs hsz v n xs hown ad m c news hl hc h1 h63 hbytes hbase
    unfold Oper.wp
    simp [execOp, ho, resolve, invoke, builtin, hs, hx, hr, Result.andThen]
    exact hK _ _ (h v' w' h2 h3 h5)

/-! ### what lies where -/

theorem lay_take (l : List Value) (off : Nat) (cs : List Value) (n : Nat) (h : off + cs.length ≤ l.length) (hn : n ≤ off) : (lay l off cs).take n = l.take n := by
  rw [lay, List.take_append_of_le_length (by rw [List.length_take]; omega), List.take_take, Nat.min_eq_left hn]

/-- Behind what stays: what is laid, and what lies behind it. -/
theorem lay_take_end (l : List Value) (off : Nat) (cs : List Value) (h : off + cs.length ≤ l.length) : (lay l off cs).take (off + cs.length) = l.take off ++ cs := by
  have e : (l.take off ++ cs).length = off + cs.length := by rw [List.length_append, List.length_take, Nat.min_eq_left (by omega)]
  rw [lay, ← List.append_assoc, ← e, List.take_left']
  rfl

theorem getElem_of_take {l : List Value} {n : Nat} {xs : List Value} (h : l.take n = xs) (j : Nat) (v : Value) (hv : xs[j]? = some v) : l[j]? = some v := by
  rw [← h, List.getElem?_take] at hv
  split at hv
  · exact hv
  · cases hv

/-- An owned row that isn't empty, or isn't nil, written out. -/
theorem owns_block {w : World} {base : Nat} {e : TypeId} {size : Nat} {g n cap : Nat} {xs : List Value} (h : w.ownsRow base e size (.slice (some ⟨g, 0, none⟩) n cap) n xs) :
    ∃ cur : List Value, w.heap[g]? = some (.cells cur.toArray e (0, 0)) ∧ n ≤ cap ∧ cap ≤ maxLen ∧ cur.length = cap * size ∧ cur.take (n * size) = xs ∧ xs.length = n * size ∧ base ≤ g := by
  rcases h.2 with ⟨h0, _⟩ | ⟨g', cap', cur, hv, hb, hg, h1, h2, h3, h4⟩
  · cases h0
  · cases hv
    exact ⟨cur.toList, by simpa using hg, h1, h2, by simpa using h3, h4, h.1, hb⟩

theorem owns_of_block {w : World} {base : Nat} {e : TypeId} {size : Nat} {g n cap : Nat} {cur xs : List Value} (hg : w.heap[g]? = some (.cells cur.toArray e (0, 0))) (h1 : n ≤ cap) (h2 : cap ≤ maxLen) (h3 : cur.length = cap * size)
    (h4 : cur.take (n * size) = xs) (hb : base ≤ g) : w.ownsRow base e size (.slice (some ⟨g, 0, none⟩) n cap) n xs := by
  have : n * size ≤ cap * size := Nat.mul_le_mul_right _ h1
  refine ⟨by rw [← h4, List.length_take]; omega, .inr ⟨g, cap, cur.toArray, rfl, hb, hg, h1, h2, by simpa using h3, by simpa using h4⟩⟩

theorem zeroCells_one (z : Array Value) : (Builtin.zeroCells z 1).toList = z.toList := by
  apply List.ext_getElem
  · simp [Builtin.zeroCells]
  · intro i h1 h2
    have h3 : i < z.size := by simpa using h2
    simp [Builtin.zeroCells, Nat.mod_eq_of_lt h3, getElem!_pos z i h3]

theorem shape_of {w : World} {b : Nat} {c : Array Value} {e : TypeId} {f : Nat × Nat} (h : w.heap[b]? = some (.cells c e f)) : w.shape? b = some (e, c.size) := by simp [World.shape?, h]

end Go.Proofs.Ytkapmpngglibjaa
