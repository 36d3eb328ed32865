/- A log on a disk, in memory, and deeds that are gathered beside it. Conditions: each law's own premises. -/
import Derived.Test.YtkapmpngglibjaaLogV
import Derived.Test.YtkapmpngglibjaaTop1
import Derived.Test.YtkapmpngglibjaaOpen
namespace Go.Proofs.Ytkapmpngglibjaa
open Go Go.RowKit Go.ChangeShapes Go.WideShapes Go.Deep

structure LogOne (base : Nat) (w0 w : World) (b db : Nat) (X : List Nat) (D : DM) (L : LM) : Prop where
  o : One base w0 w db X D
  l : LogAt w b db L
  nb : b ∉ X
  lo : base ≤ b

theorem LogOne.lt {base : Nat} {w0 w : World} {b db : Nat} {X : List Nat} {D : DM} {L : LM} (h : LogOne base w0 w b db X D L) : b < w.heap.size := lt_of_heap h.l
theorem LogOne.mem {base : Nat} {w0 w : World} {b db : Nat} {X : List Nat} {D : DM} {L : LM} (h : LogOne base w0 w b db X D L) : ∀ k ∈ b :: X, base ≤ k := fun k hk => by
  rcases List.mem_cons.1 hk with rfl | hk
  · exact h.lo
  · exact h.o.lo k hk

theorem One.later {base : Nat} {w0 w w' : World} {db : Nat} {X : List Nat} {D : DM} (h : One base w0 w db X D) (hb : Below w.heap.size w w') : One base w0 w' db X D :=
  h.other (Frame.of_below [] hb) (by simp) (by simp)

theorem LogOne.later {base : Nat} {w0 w w' : World} {b db : Nat} {X : List Nat} {D : DM} {L : LM} (h : LogOne base w0 w b db X D L) (hb : Below w.heap.size w w') : LogOne base w0 w' b db X D L :=
  ⟨h.o.later hb, (hb.block _ h.lt).trans h.l, h.nb, h.lo⟩

theorem LogOne.added {base : Nat} {w0 w w' : World} {b db : Nat} {X : List Nat} {D D' : DM} {L L' : LM} (h : LogOne base w0 w b db X D L) (ha : AddRes w b db X D' L' w') :
    ∃ Y, LogOne base w0 w' b db Y D' L' ∧ Fresh w X Y ∧ Frame (b :: X) w w' := by
  obtain ⟨Y, h1, h2, h3, h4⟩ := ha
  have hs : base ≤ w.heap.size := Nat.le_trans h.o.size h.o.below.size
  refine ⟨Y, ⟨⟨h1, fun k hk => ?_, h.o.below.trans (h3.below hs h.mem), h.o.size⟩, h2, fun hb => ?_, h.lo⟩, h4, h3⟩
  · rcases h4 k hk with hX | hge
    · exact h.o.lo k hX
    · omega
  · rcases h4 b hb with hX | hge
    · exact h.nb hX
    · have := h.lt
      omega

theorem DeedsP.moved {w w' : World} {b : Nat} {X Y : List Nat} {v : Value} {ds : List (List Chg)} (h : DeedsP (fun k => k ∉ b :: X) w v ds) (hf : Frame (b :: X) w w') (hy : Fresh w X Y) : DeedsP (fun k => k ∉ b :: Y) w' v ds := by
  have h1 : DeedsP (fun k => k ∉ b :: X ∧ k ∉ b :: Y) w v ds := h.mono fun k hk hX => ⟨hX, fun hY => by
    rcases List.mem_cons.1 hY with rfl | hY
    · exact hX (by simp)
    · rcases hy k hY with h2 | h2
      · exact hX (by simp [h2])
      · omega⟩
  exact (h1.frame hf fun k hk => hk.1).mono fun k _ hk => hk.2

theorem ChgP.moved {w w' : World} {b : Nat} {X Y : List Nat} {v : Value} {ds : List Chg} (h : ChgP (fun k => k ∉ b :: X) w v ds) (hf : Frame (b :: X) w w') (hy : Fresh w X Y) : ChgP (fun k => k ∉ b :: Y) w' v ds := by
  have h1 : ChgP (fun k => k ∉ b :: X ∧ k ∉ b :: Y) w v ds := h.mono fun k hk hX => ⟨hX, fun hY => by
    rcases List.mem_cons.1 hY with rfl | hY
    · exact hX (by simp)
    · rcases hy k hY with h2 | h2
      · exact hX (by simp [h2])
      · omega⟩
  exact (h1.frame hf fun k hk => hk.1).mono fun k _ hk => hk.2

theorem DeedsP.later {S : Nat → Prop} {w w' : World} {v : Value} {ds : List (List Chg)} (h : DeedsP S w v ds) (hb : Below w.heap.size w w') : DeedsP S w' v ds := h.frame (Frame.of_below [] hb) (by simp)
theorem ChgP.later {S : Nat → Prop} {w w' : World} {v : Value} {ds : List Chg} (h : ChgP S w v ds) (hb : Below w.heap.size w w') : ChgP S w' v ds := h.frame (Frame.of_below [] hb) (by simp)

/-- The elements of a slice of deeds, as one row of values. -/
theorem DeedsP.row {S : Nat → Prop} {w : World} {v : Value} {ds : List (List Chg)} (h : DeedsP S w v ds) :
    ∃ ao cap, ∃ vs : List Value, v = .slice ao ds.length cap ∧ ds.length ≤ maxLen ∧ vs.length = ds.length ∧ (0 < ds.length → ∃ ad, ao = some ad ∧ ∀ j u, vs[j]? = some u → w.cell? (ad.add j) = some u) ∧
      (∀ u ∈ vs, u.oneCell' = true) ∧ ∀ (i : Nat) (u : Value) (d : List Chg), vs[i]? = some u → ds[i]? = some d → ChgP S w u d := by
  obtain ⟨ao, cap, vs, rfl, hm, hl, hc, hr⟩ := h
  refine ⟨ao, cap, vs, rfl, hm, hl, fun h0 => ?_, fun u hu => ?_, hr⟩
  · obtain ⟨b, off, h1, -, -⟩ := hc 0 vs[0] (List.getElem?_eq_getElem (by omega))
    refine ⟨_, h1, fun j u hu => ?_⟩
    obtain ⟨b', off', h1', -, h3⟩ := hc j u hu
    rw [h1] at h1'
    cases h1'
    rw [add_off]
    exact h3
  · obtain ⟨i, hi⟩ := List.getElem?_of_mem hu
    have hlt := (List.getElem?_eq_some_iff.1 hi).1
    obtain ⟨ao', cap', rfl, -⟩ := hr i u ds[i] hi (List.getElem?_eq_getElem (by omega))
    rfl

/-- An owned slice whose elements are deeds. -/
theorem DeedsP.of_own {S : Nat → Prop} {w : World} {B n : Nat} {v : Value} {ds : List (List Chg)} {vs : List Value} (h : w.ownsRow B 36 1 v n vs) (hn : n = ds.length) (hl : vs.length = ds.length) (hS : ∀ k, B ≤ k → k < w.heap.size → S k)
    (hr : ∀ (i : Nat) (u : Value) (d : List Chg), vs[i]? = some u → ds[i]? = some d → ChgP S w u d) : DeedsP S w v ds := by
  subst hn
  rcases h.2 with ⟨rfl, h0⟩ | ⟨g, cap, cur, rfl, hb, hg, h1, h2, h3, h4⟩
  · have : ds = [] := List.eq_nil_of_length_eq_zero h0
    subst this
    exact DeedsP.nil _ _
  · refine ⟨some ⟨g, 0, none⟩, cap, vs, rfl, Nat.le_trans h1 h2, hl, fun i u hu => ⟨g, 0, rfl, hS g hb (lt_of_heap hg), ?_⟩, hr⟩
    rw [Nat.zero_add, cell_of hg, ← Array.getElem?_toList]
    exact getElem_of_take h4 _ _ hu

theorem snoc_elems {S : Nat → Prop} {w : World} {vs : List Value} {ds : List (List Chg)} {u : Value} {d : List Chg} (hl : vs.length = ds.length)
    (hr : ∀ (i : Nat) (u : Value) (d : List Chg), vs[i]? = some u → ds[i]? = some d → ChgP S w u d) (hu : ChgP S w u d) :
    ∀ (i : Nat) (u' : Value) (d' : List Chg), (vs ++ [u])[i]? = some u' → (ds ++ [d])[i]? = some d' → ChgP S w u' d' := by
  intro i u' d' h1 h2
  by_cases hi : i < vs.length
  · rw [List.getElem?_append_left hi] at h1
    rw [List.getElem?_append_left (by omega)] at h2
    exact hr i u' d' h1 h2
  · rw [List.getElem?_append_right (by omega)] at h1
    rw [List.getElem?_append_right (by omega)] at h2
    have : i - vs.length = 0 := by
      have := (List.getElem?_eq_some_iff.1 h1).1
      simp at this
      omega
    rw [this] at h1
    rw [show i - ds.length = 0 by omega] at h2
    cases h1
    cases h2
    exact hu

section
variable {H : Type} {enc : TypeId × Value → H} {w : World} {sp : Nat → Bool} {held : Bool}

/-- A slice of slices of changes that comes in. -/
theorem open_deeds {fuel : Nat} {v : Value} {x : DataW H × List MemPlace} (h : DataW.trod enc Try.prog w 0 sp held fuel 78 [v] = some x) : ∃ l, DeedsP (fun _ => True) w v l := by
  rcases open_slice Try.underlying78 h with ⟨hv, -⟩ | ⟨a, len, cap, m, n, D, Pl, hcs, -, hl, hm, hmm, -, hi⟩
  · obtain rfl : v = .slice none 0 0 := by simpa using hv
    exact ⟨[], DeedsP.nil _ _⟩
  · obtain rfl : v = .slice (some a) len cap := by simpa using hcs
    have hlm : len ≤ m := by rw [hmm]; split <;> omega
    have hC : Try.prog.cellsOf 36 = 1 := by kernel_rfl
    have hall : ∀ i, ∃ (u : Value) (d : List Chg), i < len → w.cell? (a.add i) = some u ∧ ChgP (fun _ => True) w u d := fun i => by
      by_cases hil : i < len
      · obtain ⟨cs', hc, ht'⟩ := hi i (by omega)
        rw [hC, Nat.mul_one] at hc
        obtain ⟨-, hlen, hat⟩ := World.cells?_some hc
        obtain ⟨u, rfl⟩ : ∃ u, cs' = [u] := by
          match cs', hlen with
          | [u], _ => exact ⟨u, rfl⟩
        have h0 := hat 0 (by omega)
        rw [Addr.add, if_pos rfl] at h0
        obtain ⟨d, hd⟩ := open_changes ht'
        exact ⟨u, d, fun _ => ⟨h0, ChgP.of_at hd⟩⟩
      · exact ⟨.nilIface, [], fun h => absurd h hil⟩
    obtain ⟨U, hU⟩ := Classical.axiomOfChoice hall
    obtain ⟨E, hE⟩ := Classical.axiomOfChoice hU
    refine ⟨(List.range len).map E, some a, cap, (List.range len).map U, by simp, by simpa using Nat.le_trans hl hm, by simp, fun i u hu => ?_, fun i u d hu hd => ?_⟩
    · have hil : i < len := by simpa using (List.getElem?_eq_some_iff.1 hu).1
      simp [hil] at hu
      subst hu
      have h3 := (hE i hil).1
      have hspot : a.spot = none := by
        have h4 := (hE 0 (by omega)).1
        rw [Addr.add, if_pos rfl] at h4
        unfold World.cell? at h4
        split at h4
        · split at h4
          · cases h4
          · cases hs : a.spot <;> simp_all
        · cases h4
      obtain ⟨b, off, sp'⟩ := a
      simp only at hspot
      subst hspot
      rw [add_off] at h3
      exact ⟨b, off, rfl, trivial, h3⟩
    · have hil : i < len := by simpa using (List.getElem?_eq_some_iff.1 hu).1
      simp [hil] at hu hd
      subst hu hd
      exact (hE i hil).2
end

end Go.Proofs.Ytkapmpngglibjaa
