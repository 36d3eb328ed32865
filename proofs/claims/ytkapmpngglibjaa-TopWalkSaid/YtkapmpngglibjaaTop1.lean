/- A disk that is up: plain lemmas; one disk in memory, carried through a loop; an act's cells. Conditions: each theorem's own premises. -/
import Derived.Test.YtkapmpngglibjaaDiskL
namespace Go.Proofs.Ytkapmpngglibjaa
open Go Go.RowKit

structure DM.Up (D : DM) : Prop where
  down : D.down = false
  fuse : D.fuse = -1

theorem DM.Up.step {D : DM} (h : D.Up) : D.step = (true, D) := by
  obtain ⟨k, n, w, f, d⟩ := D
  obtain ⟨h1, h2⟩ := h
  simp only at h1 h2
  subst h1 h2
  rfl

theorem DM.Up.flush {D : DM} (h : D.Up) : D.flush = (0, { D with kept := D.now, wait := [] }) := by
  simp [DM.flush, h.step]

theorem DM.Up.write {D : DM} (h : D.Up) (a : Int) (s : ByteArray) :
    (D.write a s = (1, D)) ∨ (∃ n : Nat, a = (n : Int) ∧ n < D.now.length ∧ D.write a s = (0, D.put n s)) := by
  by_cases hb : a < 0 ∨ (D.now.length : Int) ≤ a ∨ 140 < s.size
  · exact .inl (by rw [DM.write, if_pos hb])
  · obtain ⟨n, rfl⟩ := Int.eq_ofNat_of_zero_le (show 0 ≤ a by omega)
    refine .inr ⟨n, rfl, by omega, ?_⟩
    rw [DM.write, if_neg hb, h.step]
    simp

theorem DM.Up.put {D : DM} (h : D.Up) (n : Nat) (s : ByteArray) : (D.put n s).Up := ⟨h.down, h.fuse⟩

theorem DM.Up.read {D : DM} (h : D.Up) {n : Nat} (hn : n < D.now.length) : D.read (n : Int) = (D.now.getD n ByteArray.empty, 0) := by
  rw [DM.read, h.down, if_neg (by simp), if_neg (by omega)]
  rfl

theorem DM.restart_up (D : DM) (keep : Nat) : (D.restart keep).Up := ⟨rfl, rfl⟩
theorem DM.new_up (n : Nat) : (DM.new n).Up := ⟨rfl, rfl⟩
theorem DM.flush_up {D : DM} (h : D.Up) : D.flush.2.Up := by rw [h.flush]; exact ⟨h.down, h.fuse⟩

/-- One disk of the program's, in memory, below nothing has turned. -/
structure One (base : Nat) (w0 w : World) (b : Nat) (X : List Nat) (D : DM) : Prop where
  d : DiskAt w 107 111 b X D
  lo : ∀ k ∈ X, base ≤ k
  below : Below base w0 w
  size : base ≤ w0.heap.size

theorem One.alloc {base : Nat} {w0 w : World} {b : Nat} {X : List Nat} {D : DM} (h : One base w0 w b X D) (o : Obj) : One base w0 (w.alloc o) b X D :=
  ⟨h.d.frame ((Frame.refl [] w).alloc o) (by simp), h.lo, h.below.alloc (Nat.le_trans h.size h.below.size) o, h.size⟩

theorem One.drew {base : Nat} {w0 w : World} {b : Nat} {X : List Nat} {D : DM} (h : One base w0 w b X D) : One base w0 w.drew b X D :=
  ⟨h.d.drew, h.lo, h.below.drew, h.size⟩

theorem One.moved {base : Nat} {w0 w w1 : World} {b : Nat} {X X' : List Nat} {D D' : DM} (h : One base w0 w b X D) (h1 : DiskAt w1 107 111 b X' D') (f1 : Frame X w w1) (r1 : Fresh w X X') : One base w0 w1 b X' D' := by
  have s0 := h.below.size
  have hs := h.size
  refine ⟨h1, fun k hk => ?_, h.below.trans (f1.below (Nat.le_trans hs s0) h.lo), hs⟩
  rcases r1 k hk with hX | hge
  · exact h.lo k hX
  · omega

/-- Where other blocks turn. -/
theorem One.other {base : Nat} {w0 w w1 : World} {b : Nat} {X Y : List Nat} {D : DM} (h : One base w0 w b X D) (f1 : Frame Y w w1) (hY : ∀ k ∈ Y, base ≤ k) (hd : ∀ k ∈ X, k ∉ Y) : One base w0 w1 b X D :=
  ⟨h.d.frame f1 hd, h.lo, h.below.trans (f1.below (Nat.le_trans h.size h.below.size) hY), h.size⟩

/-- A local array of texts. -/
def TextsAt (w : World) (b : Nat) (l : List ByteArray) : Prop := ∃ e, w.heap[b]? = some (.cells (l.map Value.string).toArray e (0, 0))

theorem TextsAt.cell {w : World} {b : Nat} {l : List ByteArray} (h : TextsAt w b l) (i : Nat) (hi : i < l.length) : w.cell? ⟨b, i, none⟩ = some (.string (l.getD i ByteArray.empty)) := by
  obtain ⟨e, h⟩ := h
  rw [cell_of h]
  simp [hi, List.getD]

theorem TextsAt.frozen {w : World} {b : Nat} {l : List ByteArray} (h : TextsAt w b l) (i : Nat) : w.frozen? ⟨b, i, none⟩ = false := by
  obtain ⟨e, h⟩ := h
  exact frozen_of h i

theorem TextsAt.set {w : World} {b : Nat} {l : List ByteArray} (h : TextsAt w b l) (i : Nat) (s : ByteArray) : TextsAt (w.setCell ⟨b, i, none⟩ (.string s)) b (l.set i s) := by
  obtain ⟨e, h⟩ := h
  refine ⟨e, ?_⟩
  rw [heap_set_same i _ h]
  simp [List.map_set]

theorem TextsAt.frame {w w' : World} {b : Nat} {l : List ByteArray} {X : List Nat} (h : TextsAt w b l) (f : Frame X w w') (hb : b ∉ X) : TextsAt w' b l := by
  obtain ⟨e, h⟩ := h
  exact ⟨e, f.heap h hb⟩

theorem TextsAt.drew {w : World} {b : Nat} {l : List ByteArray} (h : TextsAt w b l) : TextsAt w.drew b l := h
theorem TextsAt.lt {w : World} {b : Nat} {l : List ByteArray} (h : TextsAt w b l) : b < w.heap.size := by
  obtain ⟨e, h⟩ := h
  exact (Array.getElem?_eq_some_iff.1 h).1

/-- One act's six cells. -/
structure ActCells (w : World) (ba o : Nat) (x : ActM) (xo : Option Addr) (xn xc : Nat) : Prop where
  kind : w.cell? ⟨ba, o, none⟩ = some (.string x.kind)
  s : w.cell? ⟨ba, o + 1, none⟩ = some (.string x.s)
  t : w.cell? ⟨ba, o + 2, none⟩ = some (.string x.t)
  n : w.cell? ⟨ba, o + 3, none⟩ = some (.int .i64 x.n)
  k : w.cell? ⟨ba, o + 4, none⟩ = some (.int .u64 (x.k : Int))
  changes : w.cell? ⟨ba, o + 5, none⟩ = some (.slice xo xn xc)

/-- The acts, by number: their cells in each later world. -/
theorem ActsAt.get {w : World} {v : Value} {l : List (ActM × Value)} (h : ActsAt w v l) :
    ∃ ao cap, v = .slice ao l.length cap ∧ l.length ≤ maxLen ∧ ∀ k x, l[k]? = some x → ∃ ba off xo xn xc, ao = some ⟨ba, off, none⟩ ∧ x.2 = .slice xo xn xc ∧
      -9223372036854775808 ≤ x.1.n ∧ x.1.n ≤ 9223372036854775807 ∧ x.1.k < 2 ^ 64 ∧ ∀ w', Below w.heap.size w w' → ActCells w' ba (off + k * 6) x.1 xo xn xc := by
  obtain ⟨⟨ao, cap, rfl, hm, hr⟩, hch, hnlo, hnhi, hkhi⟩ := h
  rw [List.length_map] at *
  refine ⟨ao, cap, rfl, hm, fun k x hx => ?_⟩
  have hmem := List.mem_of_getElem? hx
  obtain ⟨ba, off, rfl, hcell⟩ := hr k (actCells x) (by simp [hx])
  obtain ⟨xo, xcap, hxv, -⟩ := hch x hmem
  refine ⟨ba, off, xo, _, xcap, rfl, hxv, hnlo x hmem, hnhi x hmem, hkhi x hmem, fun w' hb => ?_⟩
  have at_ : ∀ j u, (actCells x)[j]? = some u → w'.cell? ⟨ba, off + k * 6 + j, none⟩ = some u := fun j u hu => by
    have hc := hcell j u hu
    exact (hb.cell (p := ⟨ba, off + k * 6 + j, none⟩) (World.block_lt_of_cell? w _ hc)).trans hc
  refine ⟨at_ 0 _ rfl, at_ 1 _ rfl, at_ 2 _ rfl, at_ 3 _ rfl, at_ 4 _ rfl, ?_⟩
  rw [← hxv]
  exact at_ 5 _ rfl

/-- What a write that went well adds to what is kept. -/
theorem keep_put (D : DM) (keep n : Nat) (s : ByteArray) (hw : D.wait.length < 64) :
    keepFrom keep 0 (D.put n s).wait (D.put n s).kept = if keep.testBit D.wait.length then (keepFrom keep 0 D.wait D.kept).set n (padTo 140 s) else keepFrom keep 0 D.wait D.kept := by
  show keepFrom keep 0 (D.wait ++ [(n, padTo 140 s)]) D.kept = _
  rw [keepFrom_snoc, Nat.zero_add, Nat.mod_eq_of_lt hw]

end Go.Proofs.Ytkapmpngglibjaa
