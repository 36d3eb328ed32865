/- Deeds in memory, and what a log says: plain. No condition beyond each law's own. -/
import Derived.Test.YtkapmpngglibjaaLogB
namespace Go.Proofs.Ytkapmpngglibjaa
open Go Go.RowKit

/-! ### deeds: lists of lists of changes, in blocks of which S holds -/

def ChgP (S : Nat → Prop) (w : World) (u : Value) (d : List Chg) : Prop :=
  ∃ ao cap, u = .slice ao d.length cap ∧ d.length ≤ maxLen ∧ ∀ (i : Nat) (c : Chg), d[i]? = some c → ∃ b off, ao = some ⟨b, off, none⟩ ∧ S b ∧
    w.cell? ⟨b, off + i * 3, none⟩ = some (.string c.key) ∧ w.cell? ⟨b, off + i * 3 + 1, none⟩ = some (.string c.val) ∧ w.cell? ⟨b, off + i * 3 + 2, none⟩ = some (.bool c.gone)

theorem ChgP.at {S : Nat → Prop} {w : World} {u : Value} {d : List Chg} (h : ChgP S w u d) : ChangesAt w u d := by
  obtain ⟨ao, cap, rfl, hm, hr⟩ := h
  refine ⟨ao, cap, by rw [List.length_map], by rw [List.length_map]; exact hm, fun i r hi => ?_⟩
  rw [List.getElem?_map, Option.map_eq_some_iff] at hi
  obtain ⟨c, hc, rfl⟩ := hi
  obtain ⟨b, off, rfl, -, h0, h1, h2⟩ := hr i c hc
  refine ⟨b, off, rfl, fun j u hu => ?_⟩
  match j, hu with
  | 0, hu => cases hu; exact h0
  | 1, hu => cases hu; exact h1
  | 2, hu => cases hu; exact h2

theorem ChgP.of_at {w : World} {u : Value} {d : List Chg} (h : ChangesAt w u d) : ChgP (fun _ => True) w u d := by
  have hm : d.length ≤ maxLen := by
    obtain ⟨ao, cap, rfl, hm, hr⟩ := h
    simpa using hm
  obtain ⟨ao, cap, rfl, hr⟩ := h.form
  exact ⟨ao, cap, rfl, hm, fun i c hc => by
    obtain ⟨b, off, h1, h2⟩ := hr i c hc
    exact ⟨b, off, h1, trivial, h2⟩⟩

/-- S may be had from what is known of the blocks that there are. -/
theorem ChgP.mono {S S' : Nat → Prop} {w : World} {u : Value} {d : List Chg} (h : ChgP S w u d) (hS : ∀ k, k < w.heap.size → S k → S' k) : ChgP S' w u d := by
  obtain ⟨ao, cap, rfl, hm, hr⟩ := h
  exact ⟨ao, cap, rfl, hm, fun i c hc => by
    obtain ⟨b, off, h1, h2, h3, h4⟩ := hr i c hc
    exact ⟨b, off, h1, hS b (World.block_lt_of_cell? w _ h3) h2, h3, h4⟩⟩

theorem ChgP.frame {S : Nat → Prop} {X : List Nat} {w w' : World} {u : Value} {d : List Chg} (h : ChgP S w u d) (hf : Frame X w w') (hX : ∀ k, S k → k ∉ X) : ChgP S w' u d := by
  obtain ⟨ao, cap, rfl, hm, hr⟩ := h
  exact ⟨ao, cap, rfl, hm, fun i c hc => by
    obtain ⟨b, off, h1, h2, h3, h4, h5⟩ := hr i c hc
    exact ⟨b, off, h1, h2, hf.cell h3 (hX b h2), hf.cell h4 (hX b h2), hf.cell h5 (hX b h2)⟩⟩

theorem ChgP.of_owns {w : World} {base : Nat} {u : Value} {d : List Chg} (h : w.ownsRow base 64 3 u d.length (flC d)) : ChgP (fun k => u.ownBlock = some k) w u d := by
  have hat : ChangesAt w u d := SliceAt.of_owns (cells_len d) (by rw [List.length_map]; exact h)
  obtain ⟨ao, cap, rfl, hm, hr⟩ := ChgP.of_at hat
  refine ⟨ao, cap, rfl, hm, fun i c hc => ?_⟩
  obtain ⟨b, off, rfl, -, h2⟩ := hr i c hc
  have : off = 0 ∧ (Value.slice (some ⟨b, off, none⟩) d.length cap).ownBlock = some b := by
    refine ⟨?_, by simp [Value.ownBlock]⟩
    rcases h.2 with ⟨h3, _⟩ | ⟨g, cap', cur, h3, -⟩
    · cases h3
    · cases h3; rfl
  exact ⟨b, off, rfl, this.2, h2⟩

/-- A slice of slices of changes. -/
def DeedsP (S : Nat → Prop) (w : World) (v : Value) (ds : List (List Chg)) : Prop :=
  ∃ ao cap, ∃ vs : List Value, v = .slice ao ds.length cap ∧ ds.length ≤ maxLen ∧ vs.length = ds.length ∧ (∀ (i : Nat) (u : Value), vs[i]? = some u → ∃ b off, ao = some ⟨b, off, none⟩ ∧ S b ∧ w.cell? ⟨b, off + i, none⟩ = some u) ∧
    ∀ (i : Nat) (u : Value) (d : List Chg), vs[i]? = some u → ds[i]? = some d → ChgP S w u d

theorem DeedsP.mono {S S' : Nat → Prop} {w : World} {v : Value} {ds : List (List Chg)} (h : DeedsP S w v ds) (hS : ∀ k, k < w.heap.size → S k → S' k) : DeedsP S' w v ds := by
  obtain ⟨ao, cap, vs, rfl, hm, hl, hc, hr⟩ := h
  exact ⟨ao, cap, vs, rfl, hm, hl, fun i u hu => by
    obtain ⟨b, off, h1, h2, h3⟩ := hc i u hu
    exact ⟨b, off, h1, hS b (World.block_lt_of_cell? w _ h3) h2, h3⟩, fun i u d hu hd => (hr i u d hu hd).mono hS⟩

theorem DeedsP.frame {S : Nat → Prop} {X : List Nat} {w w' : World} {v : Value} {ds : List (List Chg)} (h : DeedsP S w v ds) (hf : Frame X w w') (hX : ∀ k, S k → k ∉ X) : DeedsP S w' v ds := by
  obtain ⟨ao, cap, vs, rfl, hm, hl, hc, hr⟩ := h
  exact ⟨ao, cap, vs, rfl, hm, hl, fun i u hu => by
    obtain ⟨b, off, h1, h2, h3⟩ := hc i u hu
    exact ⟨b, off, h1, h2, hf.cell h3 (hX b h2)⟩, fun i u d hu hd => (hr i u d hu hd).frame hf hX⟩

theorem DeedsP.nil (S : Nat → Prop) (w : World) : DeedsP S w (.slice none 0 0) [] :=
  ⟨none, 0, [], rfl, by simp [maxLen], rfl, fun i u h => by simp at h, fun i u d h => by simp at h⟩

/-- Slices that are owned, each of which holds owned changes. -/
theorem DeedsP.of_owns {w : World} {base B : Nat} {v : Value} {ds : List (List Chg)} {vs : List Value} (h : w.ownsRow base 36 1 v ds.length vs) (hl : vs.length = ds.length) (hB : B ≤ base)
    (hr : ∀ (i : Nat) (u : Value) (d : List Chg), vs[i]? = some u → ds[i]? = some d → w.ownsRow B 64 3 u d.length (flC d)) : DeedsP (fun k => B ≤ k) w v ds := by
  have hel : ∀ (i : Nat) (u : Value) (d : List Chg), vs[i]? = some u → ds[i]? = some d → ChgP (fun k => B ≤ k) w u d := fun i u d hu hd => by
    have h1 := hr i u d hu hd
    exact (ChgP.of_owns h1).mono fun k _ hk => (World.ownsRow.lt h1 k hk).1
  rcases h.2 with ⟨rfl, h0⟩ | ⟨g, cap, cur, rfl, hb, hg, h1, h2, h3, h4⟩
  · have : ds = [] := List.eq_nil_of_length_eq_zero h0
    subst this
    exact DeedsP.nil _ _
  · refine ⟨some ⟨g, 0, none⟩, cap, vs, rfl, Nat.le_trans h1 h2, hl, fun i u hu => ⟨g, 0, rfl, Nat.le_trans hB hb, ?_⟩, hel⟩
    rw [Nat.zero_add, cell_of hg, ← Array.getElem?_toList]
    exact getElem_of_take h4 _ _ hu

/-! ### what a log says, plain -/

/-- From the i-th sector on, with a deed that is open, the deeds that are closed, and how many sectors these take. -/
def scan (first : Nat) : Nat → List ByteArray → List Chg → List (List Chg) → Nat → List (List Chg) × Nat
  | _, [], _, out, nx => (out, nx)
  | i, s :: l, deed, out, nx =>
    if (lookOf s (first + i)).2.2 then
      if (lookOf s (first + i)).1 == 99 then
        if (lookOf s (first + i)).2.1.toList == (fourB deed.length).toList then scan first (i + 1) l [] (out ++ [deed]) (i + 1) else (out, nx)
      else if (parseOf (lookOf s (first + i)).2.1).2 = 0 then scan first (i + 1) l (deed ++ [(parseOf (lookOf s (first + i)).2.1).1]) out nx else (out, nx)
    else (out, nx)

/-- The sectors of a log. -/
def secs (D : DM) (from_ many : Nat) : List ByteArray := (D.now.drop from_).take many

end Go.Proofs.Ytkapmpngglibjaa
