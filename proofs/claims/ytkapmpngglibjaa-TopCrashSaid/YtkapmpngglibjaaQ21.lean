/- Several texts in one: what each begins with says what it shows. Conditions: each law's own premises. -/
import Derived.Test.YtkapmpngglibjaaQ20
import Derived.Test.YtkapmpngglibjaaQ19
import Derived.Test.YtkapmpngglibjaaQ03

/- A disk that is up: plain lemmas; one disk in memory, carried through a loop; an act's cells. Conditions: each theorem's own premises. -/
namespace Go.Proofs.Ytkapmpngglibjaa
open Go Go.RowKit

structure DM.Up (D : DM) : Prop where
  down : D.down = false
  fuse : D.fuse = -1

theorem DM.Up.step {D : DM} (h : D.Up) : D.step = (true, D) := by
  obtain ⟨k, n, w, f, d⟩ := D
  obtain ⟨h1, h2⟩ := h
  simp only at h1 h2
  subst h1 h2
  rfl

theorem DM.Up.flush {D : DM} (h : D.Up) : D.flush = (0, { D with kept := D.now, wait := [] }) := by
  simp [DM.flush, h.step]

theorem DM.Up.write {D : DM} (h : D.Up) (a : Int) (s : ByteArray) :
    (D.write a s = (1, D)) ∨ (∃ n : Nat, a = (n : Int) ∧ n < D.now.length ∧ D.write a s = (0, D.put n s)) := by
  by_cases hb : a < 0 ∨ (D.now.length : Int) ≤ a ∨ 140 < s.size
  · exact .inl (by rw [DM.write, if_pos hb])
  · obtain ⟨n, rfl⟩ := Int.eq_ofNat_of_zero_le (show 0 ≤ a by omega)
    refine .inr ⟨n, rfl, by omega, ?_⟩
    rw [DM.write, if_neg hb, h.step]
    simp

theorem DM.Up.put {D : DM} (h : D.Up) (n : Nat) (s : ByteArray) : (D.put n s).Up := ⟨h.down, h.fuse⟩

theorem DM.Up.read {D : DM} (h : D.Up) {n : Nat} (hn : n < D.now.length) : D.read (n : Int) = (D.now.getD n ByteArray.empty, 0) := by
  rw [DM.read, h.down, if_neg (by simp), if_neg (by omega)]
  rfl

theorem DM.restart_up (D : DM) (keep : Nat) : (D.restart keep).Up := ⟨rfl, rfl⟩
theorem DM.new_up (n : Nat) : (DM.new n).Up := ⟨rfl, rfl⟩
theorem DM.flush_up {D : DM} (h : D.Up) : D.flush.2.Up := by rw [h.flush]; exact ⟨h.down, h.fuse⟩

/-- One disk of the program's, in memory, below nothing has turned. -/
structure One (base : Nat) (w0 w : World) (b : Nat) (X : List Nat) (D : DM) : Prop where
  d : DiskAt w 107 111 b X D
  lo : ∀ k ∈ X, base ≤ k
  below : Below base w0 w
  size : base ≤ w0.heap.size

theorem One.alloc {base : Nat} {w0 w : World} {b : Nat} {X : List Nat} {D : DM} (h : One base w0 w b X D) (o : Obj) : One base w0 (w.alloc o) b X D :=
  ⟨h.d.frame ((Frame.refl [] w).alloc o) (by simp), h.lo, h.below.alloc (Nat.le_trans h.size h.below.size) o, h.size⟩

theorem One.drew {base : Nat} {w0 w : World} {b : Nat} {X : List Nat} {D : DM} (h : One base w0 w b X D) : One base w0 w.drew b X D :=
  ⟨h.d.drew, h.lo, h.below.drew, h.size⟩

theorem One.moved {base : Nat} {w0 w w1 : World} {b : Nat} {X X' : List Nat} {D D' : DM} (h : One base w0 w b X D) (h1 : DiskAt w1 107 111 b X' D') (f1 : Frame X w w1) (r1 : Fresh w X X') : One base w0 w1 b X' D' := by
  have s0 := h.below.size
  have hs := h.size
  refine ⟨h1, fun k hk => ?_, h.below.trans (f1.below (Nat.le_trans hs s0) h.lo), hs⟩
  rcases r1 k hk with hX | hge
  · exact h.lo k hX
  · omega

/-- Where other blocks turn. -/
theorem One.other {base : Nat} {w0 w w1 : World} {b : Nat} {X Y : List Nat} {D : DM} (h : One base w0 w b X D) (f1 : Frame Y w w1) (hY : ∀ k ∈ Y, base ≤ k) (hd : ∀ k ∈ X, k ∉ Y) : One base w0 w1 b X D :=
  ⟨h.d.frame f1 hd, h.lo, h.below.trans (f1.below (Nat.le_trans h.size h.below.size) hY), h.size⟩

/-- A local array of texts. -/
def TextsAt (w : World) (b : Nat) (l : List ByteArray) : Prop := ∃ e, w.heap[b]? = some (.cells (l.map Value.string).toArray e (0, 0))

theorem TextsAt.cell {w : World} {b : Nat} {l : List ByteArray} (h : TextsAt w b l) (i : Nat) (hi : i < l.length) : w.cell? ⟨b, i, none⟩ = some (.string (l.getD i ByteArray.empty)) := by
  obtain ⟨e, h⟩ := h
  rw [cell_of h]
  simp [hi, List.getD]

theorem TextsAt.frozen {w : World} {b : Nat} {l : List ByteArray} (h : TextsAt w b l) (i : Nat) : w.frozen? ⟨b, i, none⟩ = false := by
  obtain ⟨e, h⟩ := h
  exact frozen_of h i

theorem TextsAt.set {w : World} {b : Nat} {l : List ByteArray} (h : TextsAt w b l) (i : Nat) (s : ByteArray) : TextsAt (w.setCell ⟨b, i, none⟩ (.string s)) b (l.set i s) := by
  obtain ⟨e, h⟩ := h
  refine ⟨e, ?_⟩
  rw [heap_set_same i _ h]
  simp [List.map_set]

theorem TextsAt.frame {w w' : World} {b : Nat} {l : List ByteArray} {X : List Nat} (h : TextsAt w b l) (f : Frame X w w') (hb : b ∉ X) : TextsAt w' b l := by
  obtain ⟨e, h⟩ := h
  exact ⟨e, f.heap h hb⟩

theorem TextsAt.drew {w : World} {b : Nat} {l : List ByteArray} (h : TextsAt w b l) : TextsAt w.drew b l := h
theorem TextsAt.lt {w : World} {b : Nat} {l : List ByteArray} (h : TextsAt w b l) : b < w.heap.size := by
  obtain ⟨e, h⟩ := h
  exact (Array.getElem?_eq_some_iff.1 h).1

/-- One act's six cells. -/
structure ActCells (w : World) (ba o : Nat) (x : ActM) (xo : Option Addr) (xn xc : Nat) : Prop where
  kind : w.cell? ⟨ba, o, none⟩ = some (.string x.kind)
  s : w.cell? ⟨ba, o + 1, none⟩ = some (.string x.s)
  t : w.cell? ⟨ba, o + 2, none⟩ = some (.string x.t)
  n : w.cell? ⟨ba, o + 3, none⟩ = some (.int .i64 x.n)
  k : w.cell? ⟨ba, o + 4, none⟩ = some (.int .u64 (x.k : Int))
  changes : w.cell? ⟨ba, o + 5, none⟩ = some (.slice xo xn xc)

/-- The acts, by number: their cells in each later world. -/
theorem ActsAt.get {w : World} {v : Value} {l : List (ActM × Value)} (h : ActsAt w v l) :
    ∃ ao cap, v = .slice ao l.length cap ∧ l.length ≤ maxLen ∧ ∀ k x, l[k]? = some x → ∃ ba off xo xn xc, ao = some ⟨ba, off, none⟩ ∧ x.2 = .slice xo xn xc ∧
      -9223372036854775808 ≤ x.1.n ∧ x.1.n ≤ 9223372036854775807 ∧ x.1.k < 2 ^ 64 ∧ ∀ w', Below w.heap.size w w' → ActCells w' ba (off + k * 6) x.1 xo xn xc := by
  obtain ⟨⟨ao, cap, rfl, hm, hr⟩, hch, hnlo, hnhi, hkhi⟩ := h
  rw [List.length_map] at *
  refine ⟨ao, cap, rfl, hm, fun k x hx => ?_⟩
  have hmem := List.mem_of_getElem? hx
  obtain ⟨ba, off, rfl, hcell⟩ := hr k (actCells x) (by simp [hx])
  obtain ⟨xo, xcap, hxv, -⟩ := hch x hmem
  refine ⟨ba, off, xo, _, xcap, rfl, hxv, hnlo x hmem, hnhi x hmem, hkhi x hmem, fun w' hb => ?_⟩
  have at_ : ∀ j u, (actCells x)[j]? = some u → w'.cell? ⟨ba, off + k * 6 + j, none⟩ = some u := fun j u hu => by
    have hc := hcell j u hu
    exact (hb.cell (p := ⟨ba, off + k * 6 + j, none⟩) (World.block_lt_of_cell? w _ hc)).trans hc
  refine ⟨at_ 0 _ rfl, at_ 1 _ rfl, at_ 2 _ rfl, at_ 3 _ rfl, at_ 4 _ rfl, ?_⟩
  rw [← hxv]
  exact at_ 5 _ rfl

/-- What a write that went well adds to what is kept. -/
theorem keep_put (D : DM) (keep n : Nat) (s : ByteArray) (hw : D.wait.length < 64) :
    keepFrom keep 0 (D.put n s).wait (D.put n s).kept = if keep.testBit D.wait.length then (keepFrom keep 0 D.wait D.kept).set n (padTo 140 s) else keepFrom keep 0 D.wait D.kept := by
  show keepFrom keep 0 (D.wait ++ [(n, padTo 140 s)]) D.kept = _
  rw [keepFrom_snoc, Nat.zero_add, Nat.mod_eq_of_lt hw]

end Go.Proofs.Ytkapmpngglibjaa

/- A log on a disk, in memory, and deeds that are gathered beside it. Conditions: each law's own premises. -/
namespace Go.Proofs.Ytkapmpngglibjaa
open Go Go.RowKit Go.ChangeShapes Go.WideShapes Go.Deep

structure LogOne (base : Nat) (w0 w : World) (b db : Nat) (X : List Nat) (D : DM) (L : LM) : Prop where
  o : One base w0 w db X D
  l : LogAt w b db L
  nb : b ∉ X
  lo : base ≤ b

theorem LogOne.lt {base : Nat} {w0 w : World} {b db : Nat} {X : List Nat} {D : DM} {L : LM} (h : LogOne base w0 w b db X D L) : b < w.heap.size := lt_of_heap h.l
theorem LogOne.mem {base : Nat} {w0 w : World} {b db : Nat} {X : List Nat} {D : DM} {L : LM} (h : LogOne base w0 w b db X D L) : ∀ k ∈ b :: X, base ≤ k := fun k hk => by
  rcases List.mem_cons.1 hk with rfl | hk
  · exact h.lo
  · exact h.o.lo k hk

theorem One.later {base : Nat} {w0 w w' : World} {db : Nat} {X : List Nat} {D : DM} (h : One base w0 w db X D) (hb : Below w.heap.size w w') : One base w0 w' db X D :=
  h.other (Frame.of_below [] hb) (by simp) (by simp)

theorem LogOne.later {base : Nat} {w0 w w' : World} {b db : Nat} {X : List Nat} {D : DM} {L : LM} (h : LogOne base w0 w b db X D L) (hb : Below w.heap.size w w') : LogOne base w0 w' b db X D L :=
  ⟨h.o.later hb, (hb.block _ h.lt).trans h.l, h.nb, h.lo⟩

theorem LogOne.added {base : Nat} {w0 w w' : World} {b db : Nat} {X : List Nat} {D D' : DM} {L L' : LM} (h : LogOne base w0 w b db X D L) (ha : AddRes w b db X D' L' w') :
    ∃ Y, LogOne base w0 w' b db Y D' L' ∧ Fresh w X Y ∧ Frame (b :: X) w w' := by
  obtain ⟨Y, h1, h2, h3, h4⟩ := ha
  have hs : base ≤ w.heap.size := Nat.le_trans h.o.size h.o.below.size
  refine ⟨Y, ⟨⟨h1, fun k hk => ?_, h.o.below.trans (h3.below hs h.mem), h.o.size⟩, h2, fun hb => ?_, h.lo⟩, h4, h3⟩
  · rcases h4 k hk with hX | hge
    · exact h.o.lo k hX
    · omega
  · rcases h4 b hb with hX | hge
    · exact h.nb hX
    · have := h.lt
      omega

theorem DeedsP.moved {w w' : World} {b : Nat} {X Y : List Nat} {v : Value} {ds : List (List Chg)} (h : DeedsP (fun k => k ∉ b :: X) w v ds) (hf : Frame (b :: X) w w') (hy : Fresh w X Y) : DeedsP (fun k => k ∉ b :: Y) w' v ds := by
  have h1 : DeedsP (fun k => k ∉ b :: X ∧ k ∉ b :: Y) w v ds := h.mono fun k hk hX => ⟨hX, fun hY => by
    rcases List.mem_cons.1 hY with rfl | hY
    · exact hX (by simp)
    · rcases hy k hY with h2 | h2
      · exact hX (by simp [h2])
      · omega⟩
  exact (h1.frame hf fun k hk => hk.1).mono fun k _ hk => hk.2

theorem ChgP.moved {w w' : World} {b : Nat} {X Y : List Nat} {v : Value} {ds : List Chg} (h : ChgP (fun k => k ∉ b :: X) w v ds) (hf : Frame (b :: X) w w') (hy : Fresh w X Y) : ChgP (fun k => k ∉ b :: Y) w' v ds := by
  have h1 : ChgP (fun k => k ∉ b :: X ∧ k ∉ b :: Y) w v ds := h.mono fun k hk hX => ⟨hX, fun hY => by
    rcases List.mem_cons.1 hY with rfl | hY
    · exact hX (by simp)
    · rcases hy k hY with h2 | h2
      · exact hX (by simp [h2])
      · omega⟩
  exact (h1.frame hf fun k hk => hk.1).mono fun k _ hk => hk.2

theorem DeedsP.later {S : Nat → Prop} {w w' : World} {v : Value} {ds : List (List Chg)} (h : DeedsP S w v ds) (hb : Below w.heap.size w w') : DeedsP S w' v ds := h.frame (Frame.of_below [] hb) (by simp)
theorem ChgP.later {S : Nat → Prop} {w w' : World} {v : Value} {ds : List Chg} (h : ChgP S w v ds) (hb : Below w.heap.size w w') : ChgP S w' v ds := h.frame (Frame.of_below [] hb) (by simp)

/-- The elements of a slice of deeds, as one row of values. -/
theorem DeedsP.row {S : Nat → Prop} {w : World} {v : Value} {ds : List (List Chg)} (h : DeedsP S w v ds) :
    ∃ ao cap, ∃ vs : List Value, v = .slice ao ds.length cap ∧ ds.length ≤ maxLen ∧ vs.length = ds.length ∧ (0 < ds.length → ∃ ad, ao = some ad ∧ ∀ j u, vs[j]? = some u → w.cell? (ad.add j) = some u) ∧
      (∀ u ∈ vs, u.oneCell' = true) ∧ ∀ (i : Nat) (u : Value) (d : List Chg), vs[i]? = some u → ds[i]? = some d → ChgP S w u d := by
  obtain ⟨ao, cap, vs, rfl, hm, hl, hc, hr⟩ := h
  refine ⟨ao, cap, vs, rfl, hm, hl, fun h0 => ?_, fun u hu => ?_, hr⟩
  · obtain ⟨b, off, h1, -, -⟩ := hc 0 vs[0] (List.getElem?_eq_getElem (by omega))
    refine ⟨_, h1, fun j u hu => ?_⟩
    obtain ⟨b', off', h1', -, h3⟩ := hc j u hu
    rw [h1] at h1'
    cases h1'
    rw [add_off]
    exact h3
  · obtain ⟨i, hi⟩ := List.getElem?_of_mem hu
    have hlt := (List.getElem?_eq_some_iff.1 hi).1
    obtain ⟨ao', cap', rfl, -⟩ := hr i u ds[i] hi (List.getElem?_eq_getElem (by omega))
    rfl

/-- An owned slice whose elements are deeds. -/
theorem DeedsP.of_own {S : Nat → Prop} {w : World} {B n : Nat} {v : Value} {ds : List (List Chg)} {vs : List Value} (h : w.ownsRow B 36 1 v n vs) (hn : n = ds.length) (hl : vs.length = ds.length) (hS : ∀ k, B ≤ k → k < w.heap.size → S k)
    (hr : ∀ (i : Nat) (u : Value) (d : List Chg), vs[i]? = some u → ds[i]? = some d → ChgP S w u d) : DeedsP S w v ds := by
  subst hn
  rcases h.2 with ⟨rfl, h0⟩ | ⟨g, cap, cur, rfl, hb, hg, h1, h2, h3, h4⟩
  · have : ds = [] := List.eq_nil_of_length_eq_zero h0
    subst this
    exact DeedsP.nil _ _
  · refine ⟨some ⟨g, 0, none⟩, cap, vs, rfl, Nat.le_trans h1 h2, hl, fun i u hu => ⟨g, 0, rfl, hS g hb (lt_of_heap hg), ?_⟩, hr⟩
    rw [Nat.zero_add, cell_of hg, ← Array.getElem?_toList]
    exact getElem_of_take h4 _ _ hu

theorem snoc_elems {S : Nat → Prop} {w : World} {vs : List Value} {ds : List (List Chg)} {u : Value} {d : List Chg} (hl : vs.length = ds.length)
    (hr : ∀ (i : Nat) (u : Value) (d : List Chg), vs[i]? = some u → ds[i]? = some d → ChgP S w u d) (hu : ChgP S w u d) :
    ∀ (i : Nat) (u' : Value) (d' : List Chg), (vs ++ [u])[i]? = some u' → (ds ++ [d])[i]? = some d' → ChgP S w u' d' := by
  intro i u' d' h1 h2
  by_cases hi : i < vs.length
  · rw [List.getElem?_append_left hi] at h1
    rw [List.getElem?_append_left (by omega)] at h2
    exact hr i u' d' h1 h2
  · rw [List.getElem?_append_right (by omega)] at h1
    rw [List.getElem?_append_right (by omega)] at h2
    have : i - vs.length = 0 := by
      have := (List.getElem?_eq_some_iff.1 h1).1
      simp at this
      omega
    rw [this] at h1
    rw [show i - ds.length = 0 by omega] at h2
    cases h1
    cases h2
    exact hu

section
variable {H : Type} {enc : TypeId × Value → H} {w : World} {sp : Nat → Bool} {held : Bool}

/-- A slice of slices of changes that comes in. -/
theorem open_deeds {fuel : Nat} {v : Value} {x : DataW H × List MemPlace} (h : DataW.trod enc Try.prog w 0 sp held fuel 78 [v] = some x) : ∃ l, DeedsP (fun _ => True) w v l := by
  rcases open_slice Try.underlying78 h with ⟨hv, -⟩ | ⟨a, len, cap, m, n, D, Pl, hcs, -, hl, hm, hmm, -, hi⟩
  · obtain rfl : v = .slice none 0 0 := by simpa using hv
    exact ⟨[], DeedsP.nil _ _⟩
  · obtain rfl : v = .slice (some a) len cap := by simpa using hcs
    have hlm : len ≤ m := by rw [hmm]; split <;> omega
    have hC : Try.prog.cellsOf 36 = 1 := by kernel_rfl
    have hall : ∀ i, ∃ (u : Value) (d : List Chg), i < len → w.cell? (a.add i) = some u ∧ ChgP (fun _ => True) w u d := fun i => by
      by_cases hil : i < len
      · obtain ⟨cs', hc, ht'⟩ := hi i (by omega)
        rw [hC, Nat.mul_one] at hc
        obtain ⟨-, hlen, hat⟩ := World.cells?_some hc
        obtain ⟨u, rfl⟩ : ∃ u, cs' = [u] := by
          match cs', hlen with
          | [u], _ => exact ⟨u, rfl⟩
        have h0 := hat 0 (by omega)
        rw [Addr.add, if_pos rfl] at h0
        obtain ⟨d, hd⟩ := open_changes ht'
        exact ⟨u, d, fun _ => ⟨h0, ChgP.of_at hd⟩⟩
      · exact ⟨.nilIface, [], fun h => absurd h hil⟩
    obtain ⟨U, hU⟩ := Classical.axiomOfChoice hall
    obtain ⟨E, hE⟩ := Classical.axiomOfChoice hU
    refine ⟨(List.range len).map E, some a, cap, (List.range len).map U, by simp, by simpa using Nat.le_trans hl hm, by simp, fun i u hu => ?_, fun i u d hu hd => ?_⟩
    · have hil : i < len := by simpa using (List.getElem?_eq_some_iff.1 hu).1
      simp [hil] at hu
      subst hu
      have h3 := (hE i hil).1
      have hspot : a.spot = none := by
        have h4 := (hE 0 (by omega)).1
        rw [Addr.add, if_pos rfl] at h4
        unfold World.cell? at h4
        split at h4
        · split at h4
          · cases h4
          · cases hs : a.spot <;> simp_all
        · cases h4
      obtain ⟨b, off, sp'⟩ := a
      simp only at hspot
      subst hspot
      rw [add_off] at h3
      exact ⟨b, off, rfl, trivial, h3⟩
    · have hil : i < len := by simpa using (List.getElem?_eq_some_iff.1 hu).1
      simp [hil] at hu hd
      subst hu hd
      exact (hE i hil).2
end

end Go.Proofs.Ytkapmpngglibjaa
