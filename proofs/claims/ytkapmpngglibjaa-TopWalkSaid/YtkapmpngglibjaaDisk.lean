/- The disk of the program: what each of its calls does to it. Conditions: each contract's own premises. -/
import Derived.Test.YtkapmpngglibjaaBase
namespace Go.Proofs.Ytkapmpngglibjaa
open Go Go.RowKit

/-! ### the plain disk -/

/-- s, and noughts behind it up to n bytes. -/
def padTo (n : Nat) (s : ByteArray) : ByteArray := s ++ ⟨Array.replicate (n - s.size) 0⟩

structure DM where
  kept : List ByteArray
  now : List ByteArray
  wait : List (Nat × ByteArray)
  fuse : Int
  down : Bool

/-- What is true of every disk. -/
structure DM.Ok (D : DM) : Prop where
  len : D.kept.length = D.now.length
  pos : 1 ≤ D.now.length
  most : D.now.length ≤ 130
  fuse : -1 ≤ D.fuse
  fuse' : D.fuse ≤ 9223372036854775807
  at_ : ∀ t ∈ D.wait, t.1 < D.now.length

def DM.step (D : DM) : Bool × DM :=
  if D.down then (false, D) else if D.fuse = 0 then (false, { D with down := true, fuse := -1 }) else (true, { D with fuse := max (D.fuse - 1) (-1) })

/-- The step's error, by its number. -/
def DM.stepErr (D : DM) : Nat := if D.step.1 then 0 else 10

/-- An error of the package, by its number; 0: none. -/
def errV (n : Nat) : Value := if n = 0 then .nilIface else .iface 101 (.int .i64 n)

def DM.put (D : DM) (at_ : Nat) (s : ByteArray) : DM := { D with now := D.now.set at_ (padTo 140 s), wait := D.wait ++ [(at_, padTo 140 s)] }

def DM.write (D : DM) (at_ : Int) (s : ByteArray) : Nat × DM :=
  if at_ < 0 ∨ (D.now.length : Int) ≤ at_ ∨ 140 < s.size then (1, D) else
  if D.step.1 then (0, D.step.2.put at_.toNat s) else (10, D.step.2)

def DM.read (D : DM) (at_ : Int) : ByteArray × Nat :=
  if D.down then (ByteArray.empty, 10) else if at_ < 0 ∨ (D.now.length : Int) ≤ at_ then (ByteArray.empty, 1) else (D.now.getD at_.toNat ByteArray.empty, 0)

def DM.flush (D : DM) : Nat × DM :=
  if D.step.1 then (0, { D.step.2 with kept := D.step.2.now, wait := [] }) else (10, D.step.2)

def DM.arm (D : DM) (n : Int) : DM := { D with fuse := max n (-1) }

/-- Of what waits (from number i on) what is kept. -/
def keepFrom (keep : Nat) : Nat → List (Nat × ByteArray) → List ByteArray → List ByteArray
  | _, [], l => l
  | i, t :: r, l => keepFrom keep (i + 1) r (if keep.testBit (i % 64) then l.set t.1 t.2 else l)

def DM.restart (D : DM) (keep : Nat) : DM :=
  { kept := keepFrom keep 0 D.wait D.kept, now := keepFrom keep 0 D.wait D.kept, wait := [], fuse := -1, down := false }

theorem DM.step_now (D : DM) : D.step.2.now = D.now ∧ D.step.2.wait = D.wait ∧ D.step.2.kept = D.kept := by
  unfold DM.step
  split
  · exact ⟨rfl, rfl, rfl⟩
  · split <;> exact ⟨rfl, rfl, rfl⟩

/-! ### in memory -/

def waitCells (l : List (Nat × ByteArray)) : List Value := l.flatMap fun t => [.int .i64 (t.1 : Int), .string t.2]

theorem waitCells_append (l : List (Nat × ByteArray)) (t : Nat × ByteArray) : waitCells (l ++ [t]) = waitCells l ++ [.int .i64 (t.1 : Int), .string t.2] := by simp [waitCells]

/-- The disk D at block b, a struct of type T whose turns are of type tw; X: its blocks. -/
structure DiskAt (w : World) (T tw b : Nat) (X : List Nat) (D : DM) : Prop where
  ex : ∃ vk vn vw, w.heap[b]? = some (.cells #[vk, vn, vw, .int .i64 D.fuse, .bool D.down] T (0, 0)) ∧ w.ownsRow 0 9 1 vk D.kept.length (D.kept.map .string) ∧
    w.ownsRow 0 9 1 vn D.now.length (D.now.map .string) ∧ w.ownsRow 0 tw 2 vw D.wait.length (waitCells D.wait) ∧
    (∀ k, vk.ownBlock = some k → vn.ownBlock ≠ some k) ∧ b ∈ X ∧ (∀ k, vk.ownBlock = some k → k ∈ X) ∧ (∀ k, vn.ownBlock = some k → k ∈ X) ∧ (∀ k, vw.ownBlock = some k → k ∈ X)
  lt : ∀ k ∈ X, k < w.heap.size
  types : T ≠ 9 ∧ tw ≠ 9 ∧ T ≠ tw
  ok : D.Ok

theorem ownBlock_ne {w : World} {base : Nat} {e e' : TypeId} {size : Nat} {v : Value} {n : Nat} {xs : List Value} (h : w.ownsRow base e size v n xs) {b : Nat} {c : Array Value} {f : Nat × Nat} (hb : w.heap[b]? = some (.cells c e' f)) (hne : e' ≠ e) :
    v.ownBlock ≠ some b := fun hk => by
  obtain ⟨cur, hc⟩ := owns_lt h hk
  rw [hb] at hc
  cases hc
  exact hne rfl

/-- It is there still where none of its blocks has turned. -/
theorem DiskAt.frame {w w' : World} {T tw b : Nat} {X Y : List Nat} {D : DM} (h : DiskAt w T tw b X D) (hf : Frame Y w w') (hd : ∀ k ∈ X, k ∉ Y) : DiskAt w' T tw b X D := by
  obtain ⟨⟨vk, vn, vw, h1, h2, h3, h4, h5, h6, h7, h8, h9⟩, hlt, hty, hok⟩ := h
  refine ⟨⟨vk, vn, vw, hf.heap h1 (hd _ h6), owns_frame h2 hf fun k hk => hd k (h7 k hk), owns_frame h3 hf fun k hk => hd k (h8 k hk), owns_frame h4 hf fun k hk => hd k (h9 k hk), h5, h6, h7, h8, h9⟩, fun k hk => ?_, hty, hok⟩
  have := hlt k hk
  have := hf.size
  omega

theorem DiskAt.drew {w : World} {T tw b : Nat} {X : List Nat} {D : DM} (h : DiskAt w T tw b X D) : DiskAt w.drew T tw b X D :=
  h.frame (Y := []) (Frame.refl [] w).drew (by simp)

/-- Its fuse, or whether it is down, is written. -/
theorem DiskAt.setFuse {w : World} {T tw b : Nat} {X : List Nat} {D : DM} (h : DiskAt w T tw b X D) (f : Int) (h1 : -1 ≤ f) (h2 : f ≤ 9223372036854775807) :
    DiskAt (w.setCell ⟨b, 3, none⟩ (.int .i64 f)) T tw b X { D with fuse := f } := by
  obtain ⟨⟨vk, vn, vw, g1, g2, g3, g4, g5, g6, g7, g8, g9⟩, hlt, hty, hok⟩ := h
  have hk := ownBlock_ne g2 g1 hty.1
  have hn := ownBlock_ne g3 g1 hty.1
  have hw := ownBlock_ne g4 g1 hty.2.2
  refine ⟨⟨vk, vn, vw, ?_, owns_of_heap g2 fun k e => heap_set_other _ _ _ ?_, owns_of_heap g3 fun k e => heap_set_other _ _ _ ?_, owns_of_heap g4 fun k e => heap_set_other _ _ _ ?_, g5, g6, g7, g8, g9⟩, fun k hk => ?_, hty, { hok with fuse := h1, fuse' := h2 }⟩
  · rw [heap_set_same 3 _ g1]; rfl
  · rintro rfl; exact hk e
  · rintro rfl; exact hn e
  · rintro rfl; exact hw e
  · rw [size_set]; exact hlt k hk

theorem DiskAt.setDown {w : World} {T tw b : Nat} {X : List Nat} {D : DM} (h : DiskAt w T tw b X D) (x : Bool) :
    DiskAt (w.setCell ⟨b, 4, none⟩ (.bool x)) T tw b X { D with down := x } := by
  obtain ⟨⟨vk, vn, vw, g1, g2, g3, g4, g5, g6, g7, g8, g9⟩, hlt, hty, hok⟩ := h
  have hk := ownBlock_ne g2 g1 hty.1
  have hn := ownBlock_ne g3 g1 hty.1
  have hw := ownBlock_ne g4 g1 hty.2.2
  refine ⟨⟨vk, vn, vw, ?_, owns_of_heap g2 fun k e => heap_set_other _ _ _ ?_, owns_of_heap g3 fun k e => heap_set_other _ _ _ ?_, owns_of_heap g4 fun k e => heap_set_other _ _ _ ?_, g5, g6, g7, g8, g9⟩, fun k hk => ?_, hty, { hok with }⟩
  · rw [heap_set_same 4 _ g1]; rfl
  · rintro rfl; exact hk e
  · rintro rfl; exact hn e
  · rintro rfl; exact hw e
  · rw [size_set]; exact hlt k hk

/-- The struct's cells, as a walk wants them. -/
theorem DiskAt.cells {w : World} {T tw b : Nat} {X : List Nat} {D : DM} (h : DiskAt w T tw b X D) : w.cell? ⟨b, 3, none⟩ = some (.int .i64 D.fuse) ∧ w.cell? ⟨b, 4, none⟩ = some (.bool D.down) ∧
    (∀ i, w.frozen? ⟨b, i, none⟩ = false) ∧ b ∈ X := by
  obtain ⟨⟨vk, vn, vw, g1, _, _, _, _, g6, _⟩, _⟩ := h
  exact ⟨by rw [cell_of g1]; rfl, by rw [cell_of g1]; rfl, frozen_of g1, g6⟩

theorem DiskAt.size_le {w : World} {T tw b : Nat} {X : List Nat} {D : DM} (h : DiskAt w T tw b X D) {w' : World} (hs : w.heap.size ≤ w'.heap.size) : ∀ k ∈ X, k < w'.heap.size := fun k hk => Nat.lt_of_lt_of_le (h.lt k hk) hs

/-- What its second cell says: the sectors as they are now. -/
theorem DiskAt.now_of {w : World} {T tw b : Nat} {X : List Nat} {D : DM} (h : DiskAt w T tw b X D) {v : Value} (hc : w.cell? ⟨b, 1, none⟩ = some v) :
    ∃ g cap, v = .slice (some ⟨g, 0, none⟩) D.now.length cap ∧ w.ownsRow 0 9 1 v D.now.length (D.now.map .string) ∧ g ∈ X ∧ D.now.length ≤ cap ∧ (∀ i, w.frozen? ⟨g, i, none⟩ = false) ∧
      (∀ i, i < D.now.length → w.cell? ⟨g, i, none⟩ = some (.string (D.now.getD i ByteArray.empty))) ∧
      (∀ i s, i < D.now.length → DiskAt (w.setCell ⟨g, i, none⟩ (.string s)) T tw b X { D with now := D.now.set i s }) := by
  obtain ⟨⟨vk, vn, vw, g1, g2, g3, g4, g5, g6, g7, g8, g9⟩, hlt, hty, hok⟩ := h
  have hn := ownBlock_ne g3 g1 hty.1
  rw [cell_of g1] at hc
  obtain rfl : vn = v := by simpa using hc
  obtain ⟨g, cap, cur, rfl, _, hg, hcap, hmax, hcs, hxs⟩ := owns_open g3 hok.pos
  have hnw := ownBlock_ne g4 hg (Ne.symm hty.2.1)
  refine ⟨g, cap, rfl, g3, g8 g rfl, hcap, frozen_of hg, fun i hi => ?_, fun i s hi => ?_⟩
  · rw [owns_cell g3 (by omega)]
    simp [hi]
  · have hgb : g ≠ b := fun e => hn (by rw [← e]; rfl)
    refine ⟨⟨vk, _, vw, by rw [heap_set_other _ _ _ (Ne.symm hgb)]; exact g1, owns_of_heap g2 fun k e => heap_set_other _ _ _ ?_, ?_, owns_of_heap g4 fun k e => heap_set_other _ _ _ ?_, g5, g6, g7, g8, g9⟩,
      fun k hk => by rw [size_set]; exact hlt k hk, hty, ?_⟩
    · rintro rfl; exact g5 _ e rfl
    · have := owns_set g3 i (.string s)
      rw [← List.map_set] at this
      simpa using this
    · rintro rfl; exact hnw e
    · exact { len := by simpa using hok.len, pos := by simpa using hok.pos, most := by simpa using hok.most, fuse := hok.fuse, fuse' := hok.fuse', at_ := by simpa using hok.at_ }

/-- What its first cell says: the sectors that are kept. -/
theorem DiskAt.kept_of {w : World} {T tw b : Nat} {X : List Nat} {D : DM} (h : DiskAt w T tw b X D) {v : Value} (hc : w.cell? ⟨b, 0, none⟩ = some v) :
    ∃ g cap, v = .slice (some ⟨g, 0, none⟩) D.kept.length cap ∧ w.ownsRow 0 9 1 v D.kept.length (D.kept.map .string) ∧ g ∈ X ∧ D.kept.length ≤ cap ∧ (∀ i, w.frozen? ⟨g, i, none⟩ = false) ∧
      (∀ i, i < D.kept.length → w.cell? ⟨g, i, none⟩ = some (.string (D.kept.getD i ByteArray.empty))) ∧
      (∀ i s, i < D.kept.length → DiskAt (w.setCell ⟨g, i, none⟩ (.string s)) T tw b X { D with kept := D.kept.set i s }) := by
  obtain ⟨⟨vk, vn, vw, g1, g2, g3, g4, g5, g6, g7, g8, g9⟩, hlt, hty, hok⟩ := h
  have hk := ownBlock_ne g2 g1 hty.1
  rw [cell_of g1] at hc
  obtain rfl : vk = v := by simpa using hc
  obtain ⟨g, cap, cur, rfl, _, hg, hcap, hmax, hcs, hxs⟩ := owns_open g2 (by rw [hok.len]; exact hok.pos)
  have hnw := ownBlock_ne g4 hg (Ne.symm hty.2.1)
  refine ⟨g, cap, rfl, g2, g7 g rfl, hcap, frozen_of hg, fun i hi => ?_, fun i s hi => ?_⟩
  · rw [owns_cell g2 (by omega)]
    simp [hi]
  · have hgb : g ≠ b := fun e => hk (by rw [← e]; rfl)
    refine ⟨⟨_, vn, vw, by rw [heap_set_other _ _ _ (Ne.symm hgb)]; exact g1, ?_, owns_of_heap g3 fun k e => heap_set_other _ _ _ ?_, owns_of_heap g4 fun k e => heap_set_other _ _ _ ?_, g5, g6, g7, g8, g9⟩,
      fun k hk => by rw [size_set]; exact hlt k hk, hty, ?_⟩
    · have := owns_set g2 i (.string s)
      rw [← List.map_set] at this
      simpa using this
    · rintro rfl; exact g5 _ rfl e
    · rintro rfl; exact hnw e
    · exact { len := by simpa using hok.len, pos := hok.pos, most := hok.most, fuse := hok.fuse, fuse' := hok.fuse', at_ := hok.at_ }

/-- All sectors that are kept are written anew. -/
theorem DiskAt.setKept {w : World} {T tw b : Nat} {X : List Nat} {D : DM} (h : DiskAt w T tw b X D) {v : Value} (hc : w.cell? ⟨b, 0, none⟩ = some v) {w' : World} {l : List ByteArray} (hl : l.length = D.kept.length)
    (ho : w'.ownsRow 0 9 1 v l.length (l.map .string)) (hg : w.grownBy w' v.ownBlock) : DiskAt w' T tw b X { D with kept := l } := by
  obtain ⟨⟨vk, vn, vw, g1, g2, g3, g4, g5, g6, g7, g8, g9⟩, hlt, hty, hok⟩ := h
  have hk := ownBlock_ne g2 g1 hty.1
  rw [cell_of g1] at hc
  obtain rfl : vk = v := by simpa using hc
  refine ⟨⟨vk, vn, vw, (hg.block b (lt_of_heap g1) (Ne.symm hk)).trans g1, ho, owns_of_heap g3 fun k e => ?_, owns_of_heap g4 fun k e => ?_, g5, g6, g7, g8, g9⟩, fun k hk => Nat.lt_of_lt_of_le (hlt k hk) hg.size, hty, { hok with len := by rw [← hok.len]; exact hl }⟩
  · obtain ⟨cur, hcur⟩ := owns_lt g3 e
    exact hg.block k (lt_of_heap hcur) fun e2 => g5 k e2.symm e
  · obtain ⟨cur, hcur⟩ := owns_lt g4 e
    refine hg.block k (lt_of_heap hcur) fun e2 => ?_
    obtain ⟨cur2, hcur2⟩ := owns_lt g2 e2.symm
    rw [hcur] at hcur2
    cases hcur2
    exact hty.2.1 rfl

/-- All sectors are written anew. -/
theorem DiskAt.setNow {w : World} {T tw b : Nat} {X : List Nat} {D : DM} (h : DiskAt w T tw b X D) {v : Value} (hc : w.cell? ⟨b, 1, none⟩ = some v) {w' : World} {l : List ByteArray} (hl : l.length = D.now.length)
    (ho : w'.ownsRow 0 9 1 v l.length (l.map .string)) (hg : w.grownBy w' v.ownBlock) : DiskAt w' T tw b X { D with now := l } := by
  obtain ⟨⟨vk, vn, vw, g1, g2, g3, g4, g5, g6, g7, g8, g9⟩, hlt, hty, hok⟩ := h
  have hn := ownBlock_ne g3 g1 hty.1
  rw [cell_of g1] at hc
  obtain rfl : vn = v := by simpa using hc
  refine ⟨⟨vk, vn, vw, (hg.block b (lt_of_heap g1) (Ne.symm hn)).trans g1, owns_of_heap g2 fun k e => ?_, ho, owns_of_heap g4 fun k e => ?_, g5, g6, g7, g8, g9⟩, fun k hk => Nat.lt_of_lt_of_le (hlt k hk) hg.size, hty,
    { len := by rw [hl]; exact hok.len, pos := by rw [hl]; exact hok.pos, most := by rw [hl]; exact hok.most, fuse := hok.fuse, fuse' := hok.fuse', at_ := by rw [hl]; exact hok.at_ }⟩
  · obtain ⟨cur, hcur⟩ := owns_lt g2 e
    exact hg.block k (lt_of_heap hcur) fun e2 => g5 k e e2.symm
  · obtain ⟨cur, hcur⟩ := owns_lt g4 e
    refine hg.block k (lt_of_heap hcur) fun e2 => ?_
    obtain ⟨cur2, hcur2⟩ := owns_lt g3 e2.symm
    rw [hcur] at hcur2
    cases hcur2
    exact hty.2.1 rfl

/-- The sectors that are kept are laid in a new row. -/
theorem DiskAt.newKept {w w1 : World} {T tw b : Nat} {X : List Nat} {D : DM} (h : DiskAt w T tw b X D) (hf : Frame [] w w1) {g cap : Nat} {l : List ByteArray} (hl : l.length = D.kept.length) (hg : w.heap.size ≤ g)
    (ho : w1.ownsRow 0 9 1 (.slice (some ⟨g, 0, none⟩) l.length cap) l.length (l.map .string)) : DiskAt (w1.setCell ⟨b, 0, none⟩ (.slice (some ⟨g, 0, none⟩) l.length cap)) T tw b (g :: X) { D with kept := l } := by
  have h1 := h.frame hf (by simp)
  obtain ⟨⟨vk, vn, vw, g1, g2, g3, g4, g5, g6, g7, g8, g9⟩, hlt, hty, hok⟩ := h1
  have hn := ownBlock_ne g3 g1 hty.1
  have hw := ownBlock_ne g4 g1 hty.2.2
  have hgb : g ≠ b := fun e => by have := h.lt b g6; omega
  obtain ⟨cur, hcur⟩ := owns_lt ho (k := g) rfl
  refine ⟨⟨_, vn, vw, by rw [heap_set_same 0 _ g1]; rfl, owns_of_heap ho fun k e => heap_set_other _ _ _ ?_, owns_of_heap g3 fun k e => heap_set_other _ _ _ ?_, owns_of_heap g4 fun k e => heap_set_other _ _ _ ?_, ?_, ?_, ?_, ?_, ?_⟩, ?_, hty, { hok with len := hl.trans hok.len }⟩
  · cases e; exact hgb
  · rintro rfl; exact hn e
  · rintro rfl; exact hw e
  · intro k e e2
    cases e
    have h3 : g < w.heap.size := h.lt _ (g8 _ e2)
    omega
  · exact List.mem_cons_of_mem _ g6
  · intro k e; cases e; exact List.mem_cons_self ..
  · exact fun k e => List.mem_cons_of_mem _ (g8 k e)
  · exact fun k e => List.mem_cons_of_mem _ (g9 k e)
  · intro k hk
    rw [size_set]
    rcases List.mem_cons.1 hk with rfl | hk
    · exact lt_of_heap hcur
    · exact hlt k hk

/-- The sectors are laid in a new row. -/
theorem DiskAt.newNow {w w1 : World} {T tw b : Nat} {X : List Nat} {D : DM} (h : DiskAt w T tw b X D) (hf : Frame [] w w1) {g cap : Nat} {l : List ByteArray} (hl : l.length = D.now.length) (hg : w.heap.size ≤ g)
    (ho : w1.ownsRow 0 9 1 (.slice (some ⟨g, 0, none⟩) l.length cap) l.length (l.map .string)) : DiskAt (w1.setCell ⟨b, 1, none⟩ (.slice (some ⟨g, 0, none⟩) l.length cap)) T tw b (g :: X) { D with now := l } := by
  have h1 := h.frame hf (by simp)
  obtain ⟨⟨vk, vn, vw, g1, g2, g3, g4, g5, g6, g7, g8, g9⟩, hlt, hty, hok⟩ := h1
  have hk' := ownBlock_ne g2 g1 hty.1
  have hw := ownBlock_ne g4 g1 hty.2.2
  have hgb : g ≠ b := fun e => by have := h.lt b g6; omega
  obtain ⟨cur, hcur⟩ := owns_lt ho (k := g) rfl
  refine ⟨⟨vk, _, vw, by rw [heap_set_same 1 _ g1]; rfl, owns_of_heap g2 fun k e => heap_set_other _ _ _ ?_, owns_of_heap ho fun k e => heap_set_other _ _ _ ?_, owns_of_heap g4 fun k e => heap_set_other _ _ _ ?_, ?_, ?_, ?_, ?_, ?_⟩, ?_, hty,
    { len := hok.len.trans hl.symm, pos := by rw [hl]; exact hok.pos, most := by rw [hl]; exact hok.most, fuse := hok.fuse, fuse' := hok.fuse', at_ := by rw [hl]; exact hok.at_ }⟩
  · rintro rfl; exact hk' e
  · cases e; exact hgb
  · rintro rfl; exact hw e
  · intro k e e2
    cases e2
    have h3 : g < w.heap.size := h.lt _ (g7 _ e)
    omega
  · exact List.mem_cons_of_mem _ g6
  · exact fun k e => List.mem_cons_of_mem _ (g7 k e)
  · intro k e; cases e; exact List.mem_cons_self ..
  · exact fun k e => List.mem_cons_of_mem _ (g9 k e)
  · intro k hk
    rw [size_set]
    rcases List.mem_cons.1 hk with rfl | hk
    · exact lt_of_heap hcur
    · exact hlt k hk

/-- Nothing waits any more. -/
theorem DiskAt.noWait {w : World} {T tw b : Nat} {X : List Nat} {D : DM} (h : DiskAt w T tw b X D) : DiskAt (w.setCell ⟨b, 2, none⟩ (.slice none 0 0)) T tw b X { D with wait := [] } := by
  obtain ⟨⟨vk, vn, vw, g1, g2, g3, g4, g5, g6, g7, g8, g9⟩, hlt, hty, hok⟩ := h
  have hk := ownBlock_ne g2 g1 hty.1
  have hn := ownBlock_ne g3 g1 hty.1
  refine ⟨⟨vk, vn, .slice none 0 0, ?_, owns_of_heap g2 fun k e => heap_set_other _ _ _ ?_, owns_of_heap g3 fun k e => heap_set_other _ _ _ ?_, World.ownsRow_nil _ _ _ _, g5, g6, g7, g8, fun k e => by cases e⟩, fun k hk => ?_, hty, { hok with at_ := by simp }⟩
  · rw [heap_set_same 2 _ g1]; rfl
  · rintro rfl; exact hk e
  · rintro rfl; exact hn e
  · rw [size_set]; exact hlt k hk

/-- What its third cell says: what waits; and what another slice there makes of it. -/
theorem DiskAt.wait_of {w : World} {T tw b : Nat} {X : List Nat} {D : DM} (h : DiskAt w T tw b X D) {v : Value} (hc : w.cell? ⟨b, 2, none⟩ = some v) :
    w.ownsRow 0 tw 2 v D.wait.length (waitCells D.wait) ∧ (∀ k, v.ownBlock = some k → k ∈ X ∧ k ≠ b) ∧
      (∀ (w' : World) v' (l : List (Nat × ByteArray)) (Y : List Nat), w'.ownsRow 0 tw 2 v' l.length (waitCells l) → w.heap.size ≤ w'.heap.size → (∀ k, k < w.heap.size → v.ownBlock ≠ some k → w'.heap[k]? = w.heap[k]?) →
        (∀ k, v'.ownBlock = some k → k = b → False) → (∀ k ∈ X, k ∈ Y) → (∀ k, v'.ownBlock = some k → k ∈ Y) → (∀ k ∈ Y, k < w'.heap.size) → (∀ t ∈ l, t.1 < D.now.length) →
        DiskAt (w'.setCell ⟨b, 2, none⟩ v') T tw b Y { D with wait := l }) := by
  obtain ⟨⟨vk, vn, vw, g1, g2, g3, g4, g5, g6, g7, g8, g9⟩, hlt, hty, hok⟩ := h
  have hk := ownBlock_ne g2 g1 hty.1
  have hn := ownBlock_ne g3 g1 hty.1
  have hw := ownBlock_ne g4 g1 hty.2.2
  rw [cell_of g1] at hc
  obtain rfl : vw = v := by simpa using hc
  refine ⟨g4, fun k e => ⟨g9 k e, fun hkb => hw (by rw [← hkb]; exact e)⟩, fun w' v' l Y ho hs hb hv hXY hvY hYlt hl => ?_⟩
  have far : ∀ {v2 : Value} {n2 : Nat} {xs : List Value}, w.ownsRow 0 9 1 v2 n2 xs → v2.ownBlock ≠ some b → (w'.setCell ⟨b, 2, none⟩ v').ownsRow 0 9 1 v2 n2 xs := fun {v2 n2 xs} h2 hne =>
    owns_of_heap h2 fun k e => by
      obtain ⟨cur, hcur⟩ := owns_lt h2 e
      rw [heap_set_other _ _ _ (fun hkb => hne (by rw [← (show k = b from hkb)]; exact e))]
      refine hb k (lt_of_heap hcur) fun e2 => ?_
      obtain ⟨cur2, hcur2⟩ := owns_lt g4 e2
      rw [hcur] at hcur2
      cases hcur2
      exact hty.2.1 rfl
  refine ⟨⟨vk, vn, v', ?_, far g2 hk, far g3 hn, owns_of_heap ho fun k e => heap_set_other _ _ _ (fun hkb => hv k e hkb), g5, hXY _ g6, fun k e => hXY _ (g7 k e), fun k e => hXY _ (g8 k e), hvY⟩, fun k hk => by rw [size_set]; exact hYlt k hk, hty,
    { hok with at_ := hl }⟩
  have hbb : w'.heap[b]? = some (.cells #[vk, vn, vw, .int .i64 D.fuse, .bool D.down] T (0, 0)) := (hb b (lt_of_heap g1) hw).trans g1
  rw [heap_set_same 2 _ hbb]
  rfl

theorem DiskAt.cell0 {w : World} {T tw b : Nat} {X : List Nat} {D : DM} (h : DiskAt w T tw b X D) : (∃ v, w.cell? ⟨b, 0, none⟩ = some v) ∧ (∃ v, w.cell? ⟨b, 1, none⟩ = some v) ∧ (∃ v, w.cell? ⟨b, 2, none⟩ = some v) := by
  obtain ⟨⟨vk, vn, vw, g1, _⟩, _⟩ := h
  exact ⟨⟨vk, by rw [cell_of g1]; rfl⟩, ⟨vn, by rw [cell_of g1]; rfl⟩, ⟨vw, by rw [cell_of g1]; rfl⟩⟩

/-! ### the program's disk: step -/

set_option maxHeartbeats 400000 in
theorem step_any (b : Nat) (X : List Nat) (D : DM) (w : World) (hD : DiskAt w 107 111 b X D) :
    Calls Try.prog 67 #[.pointer (some ⟨b, 0, none⟩)] w (Ret (errV D.stepErr) fun w' => DiskAt w' 107 111 b X D.step.2 ∧ Frame X w w') := by
  obtain ⟨c3, c4, hz, hX⟩ := hD.cells
  have hf := hD.ok.fuse
  have hf' := hD.ok.fuse'
  have z3 := hz 3
  have z4 := hz 4
  clear hz
  by_cases hd : D.down = true
  · rw [hd] at c4
    have H := Lib.hid hd
    clear hd
    go_enter Try.func67, Try.ntmps67
    go_wp2
    go_ret
    have hd := H.out
    exact Ret.of (by simp [DM.stepErr, DM.step, hd, errV]) ⟨by simpa [DM.step, hd] using hD, Frame.refl _ _⟩
  · have hd' : D.down = false := by simpa using hd
    rw [hd'] at c4
    have H := Lib.hid hd'
    clear hd hd'
    by_cases h0 : D.fuse = 0
    · have H0 := Lib.hid h0
      rw [h0] at c3
      clear h0
      go_enter Try.func67, Try.ntmps67
      go_wp2
      go_ret
      have hd := H.out
      have h0 := H0.out
      refine Ret.of (by simp [DM.stepErr, DM.step, hd, h0, errV]) ⟨?_, ((Frame.refl X w).set (.inl hX) _).set (.inl hX) _⟩
      have := (hD.setDown true).setFuse (-1) (by omega) (by omega)
      simpa [DM.step, hd, h0] using this
    · have h0' : (D.fuse == 0) = false := by simpa using h0
      have H0 := Lib.hid h0
      clear h0
      go_enter Try.func67, Try.ntmps67
      go_wp2
      all_goals
        go_ret
        have hd := H.out
        have h0 := H0.out
        refine Ret.of (by simp [DM.stepErr, DM.step, hd, h0, errV]) ⟨?_, (Frame.refl X w).set (.inl hX) _⟩
      · have := hD.setFuse (-1) (by omega) (by omega)
        have e : max (D.fuse - 1) (-1) = -1 := by omega
        simpa [DM.step, hd, h0, e] using this
      · have := hD.setFuse (D.fuse - 1) (by omega) (by omega)
        have e : max (D.fuse - 1) (-1) = D.fuse - 1 := by omega
        simpa [DM.step, hd, h0, e] using this

end Go.Proofs.Ytkapmpngglibjaa
