/- Several texts in one: what each begins with says what it shows. Conditions: each law's own premises. -/
import Derived.Test.YtkapmpngglibjaaQ26
import Derived.Lib.ConvBytes
import Derived.Shelf.Abstract
import Derived.Shelf.RegionOpen
import Derived.WalkKit
import Derived.OwnWalkIn
import Derived.TacticsInMore
import Derived.LoopNIn
import Derived.LoopIn

/- A checkpoint, walked. Conditions: the contract's own premises. -/
namespace Go.Proofs.Ytkapmpngglibjaa
open Go Go.RowKit Go.Shelf
attribute [local go_sem] Oper.semAt_some

/-- A store's struct, at block sb: the disk at db, the log at lb, the head h, its rows vr. -/
def StoAt (w : World) (sb db lb : Nat) (h : HM) (vr : Value) : Prop :=
  w.heap[sb]? = some (.cells #[.pointer (some ⟨db, 0, none⟩), .int .i64 (h.epoch : Int), .int .i64 (h.side : Int), .int .i64 (h.size : Int), .int .i64 (h.first : Int), .pointer (some ⟨lb, 0, none⟩), vr] 145 (0, 0))

theorem StoAt.cells {w : World} {sb db lb : Nat} {h : HM} {vr : Value} (hs : StoAt w sb db lb h vr) : w.cell? ⟨sb, 0, none⟩ = some (.pointer (some ⟨db, 0, none⟩)) ∧ w.cell? ⟨sb, 1, none⟩ = some (.int .i64 (h.epoch : Int)) ∧ w.cell? ⟨sb, 2, none⟩ = some (.int .i64 (h.side : Int)) ∧
    w.cell? ⟨sb, 3, none⟩ = some (.int .i64 (h.size : Int)) ∧ w.cell? ⟨sb, 4, none⟩ = some (.int .i64 (h.first : Int)) ∧ w.cell? ⟨sb, 5, none⟩ = some (.pointer (some ⟨lb, 0, none⟩)) ∧ w.cell? ⟨sb, 6, none⟩ = some vr :=
  ⟨cell_of hs 0, cell_of hs 1, cell_of hs 2, cell_of hs 3, cell_of hs 4, cell_of hs 5, cell_of hs 6⟩

/-- The next head. -/
def nextH (h : HM) (size first : Nat) : HM := ⟨h.epoch + 1, 1 - h.side, size, first⟩

def CkRes (w : World) (sb db lb : Nat) (X : List Nat) (h : HM) (vr : Value) (H : HM) (n : Nat) (r : Nat × DM) (w' : World) : Prop :=
  ∃ Y, DiskAt w' 107 111 db Y r.2 ∧ Fresh w X Y ∧ Frame (sb :: X) w w' ∧
    ((r.1 ≠ 0 ∧ StoAt w' sb db lb h vr) ∨ (r.1 = 0 ∧ ∃ lb', w.heap.size ≤ lb' ∧ lb' ∉ Y ∧ StoAt w' sb db lb' H vr ∧ LogAt w' lb' db ⟨90, n - 90, H.first, (scan H.first 0 (secs r.2 90 (n - 90)) [] [] 0).2⟩))

theorem CkI.next {w0 W w8 : World} {X Y Y9 : List Nat} {at_ : Nat} {t : ByteArray} {D Dm : DM} {db a3 bs bn B : Nat} {pre : List Nat} {x : Nat} {v0 : Value} (hdm : ckWrites at_ t D 0 (pre ++ [x]) = (0, Dm)) (hAI : W.heap[a3]? = some (.cells #[v0] 3 (0, 0))) (hYC : CellsAt W Y) (hF8 : Frame Y W w8) (hFA : Frame (a3 :: X) w0 w8)
    (hD9 : DiskAt w8 107 111 db Y9 Dm) (hC9 : CellsAt w8 Y9) (hFF : Fresh w0 X Y9) (h8I : w8.heap[a3]? = some (.cells #[v0] 3 (0, 0))) (ha3 : a3 < w0.heap.size) (hax : a3 ∉ X) (hbs : bs ≠ a3) (hbn : bn ≠ a3) (e8s : w8.heap[bs]? = W.heap[bs]?) (e8n : w8.heap[bn]? = W.heap[bn]?) :
    KeepsFrom B W (w8.setCell ⟨a3, 0, none⟩ (.int .i64 ((pre.length : Int) + 1))) ∧ BoxKp bs bn W (w8.setCell ⟨a3, 0, none⟩ (.int .i64 ((pre.length : Int) + 1))) ∧ CkI w0 X at_ t D db a3 (pre ++ [x]) (w8.setCell ⟨a3, 0, none⟩ (.int .i64 ((pre.length : Int) + 1))) := by
  have hn : a3 ∉ Y9 := fun hm => (hFF _ hm).elim hax (fun h => by omega)
  refine ⟨KeepsFrom.of_frame (X := a3 :: Y) ((hF8.mono (fun _ h => List.mem_cons_of_mem _ h)).set (p := ⟨a3, 0, none⟩) (.inl (by simp)) _) (fun k hk => ?_), ⟨(heap_set_other _ _ _ hbs).trans e8s, (heap_set_other _ _ _ hbn).trans e8n⟩, ?_⟩
  · rcases List.mem_cons.1 hk with rfl | hk
    · exact ⟨_, _, _, hAI⟩
    · exact hYC k hk
  · refine ⟨by rw [hdm], ⟨Y9, ?_, fun k hk => ?_, hFF⟩, hFA.set (p := ⟨a3, 0, none⟩) (.inl (by simp)) _, ?_⟩
    · rw [hdm]
      exact hD9.frame ((Frame.refl [a3] _).set (p := ⟨a3, 0, none⟩) (.inl (by simp)) _) (fun k hk hm => hn (by rw [List.mem_singleton.1 hm] at hk; exact hk))
    · obtain ⟨c, e, f, h⟩ := hC9 k hk
      exact ⟨c, e, f, (heap_set_other _ _ _ (fun e => hn (by rw [← show k = a3 from e]; exact hk))).trans h⟩
    · have := heap_set_same 0 (.int .i64 ((pre.length : Int) + 1)) h8I
      rw [List.length_append, List.length_singleton]
      exact this

theorem CkX.stop {w0 W w8 : World} {X Y Y9 : List Nat} {at_ : Nat} {t : ByteArray} {D Dm : DM} {db a1 a3 m B : Nat} {pre : List Nat} {x : Nat} {v0 v1 : Value} (hdm : ckWrites at_ t D 0 (pre ++ [x]) = (m, Dm)) (hm : m ≠ 0) (_hAI : W.heap[a3]? = some (.cells #[v0] 3 (0, 0))) (hA1 : W.heap[a1]? = some (.cells #[v1] 27 (0, 0))) (hYC : CellsAt W Y) (hF8 : Frame Y W w8) (hFA : Frame (a3 :: X) w0 w8)
    (hD9 : DiskAt w8 107 111 db Y9 Dm) (hC9 : CellsAt w8 Y9) (hFF : Fresh w0 X Y9) (h8A : w8.heap[a1]? = some (.cells #[v1] 27 (0, 0))) (ha1 : a1 < w0.heap.size) (hax : a1 ∉ X) :
    KeepsFrom B W (w8.setCell ⟨a1, 0, none⟩ (errV m)) ∧ CkX w0 X at_ t D db a1 a3 .ret (pre ++ [x]) (w8.setCell ⟨a1, 0, none⟩ (errV m)) := by
  have hn : a1 ∉ Y9 := fun hm => (hFF _ hm).elim hax (fun h => by omega)
  refine ⟨KeepsFrom.of_frame (X := a1 :: Y) ((hF8.mono (fun _ h => List.mem_cons_of_mem _ h)).set (p := ⟨a1, 0, none⟩) (.inl (by simp)) _) (fun k hk => ?_), ?_⟩
  · rcases List.mem_cons.1 hk with rfl | hk
    · exact ⟨_, _, _, hA1⟩
    · exact hYC k hk
  · refine ⟨rfl, by rw [hdm]; exact hm, ⟨Y9, ?_, fun k hk => ?_, hFF⟩, (hFA.mono (fun _ h => List.mem_cons_of_mem _ h)).set (p := ⟨a1, 0, none⟩) (.inl (by simp)) _, ?_⟩
    · rw [hdm]
      exact hD9.frame ((Frame.refl [a1] _).set (p := ⟨a1, 0, none⟩) (.inl (by simp)) _) (fun k hk hm => hn (by rw [List.mem_singleton.1 hm] at hk; exact hk))
    · obtain ⟨c, e, f, h⟩ := hC9 k hk
      exact ⟨c, e, f, (heap_set_other _ _ _ (fun e => hn (by rw [← show k = a1 from e]; exact hk))).trans h⟩
    · rw [hdm]
      exact heap_set_same 0 (errV m) h8A


/-- Where a checkpoint stands, behind the loop. -/
structure CkT (w7 : World) (X Z : List Nat) (db DD : Nat) (Y : List Nat) (Dm : DM) (W : World) : Prop where
  disk : DiskAt W 107 111 db Y Dm
  fresh : Fresh w7 X Y
  frame : Frame Z w7 W
  dd : W.heap[DD]? = some (.deferred (some []))
  ddY : DD ∉ Y
  dlt : w7.heap.size ≤ DD
  sub : ∀ k ∈ X, k ∈ Z

theorem CkT.step {w7 W W' : World} {X Z Y Y' : List Nat} {db DD : Nat} {Dm D' : DM} (h : CkT w7 X Z db DD Y Dm W) (hF : Frame Y W W') (hY : Fresh W Y Y') (hD : DiskAt W' 107 111 db Y' D') : CkT w7 X Z db DD Y' D' W' :=
  ⟨hD, fun k hk => (hY k hk).elim (h.fresh k) (fun g => .inr (Nat.le_trans h.frame.size g)),
    h.frame.then' hF (fun b hb => (h.fresh b hb).elim (fun e => .inl (h.sub _ e)) .inr), hF.heap h.dd h.ddY, fun hm => (hY _ hm).elim h.ddY (fun g => by have := lt_of_heap h.dd; omega), h.dlt, h.sub⟩

theorem CkT.below {w7 W W' : World} {X Z Y : List Nat} {db DD : Nat} {Dm : DM} (h : CkT w7 X Z db DD Y Dm W) (hB : Below W.heap.size W W') : CkT w7 X Z db DD Y Dm W' :=
  h.step (Frame.of_below _ hB) (Fresh.refl _ _) (h.disk.frame (Frame.of_below [] hB) (by simp))

theorem CkT.fin {w w7 W W1 : World} {X Z Y : List Nat} {db a1 sb DD : Nat} {Dm : DM} (h : CkT w7 X Z db DD Y Dm W) (hB : Below w.heap.size w w7) (hx : ∀ k ∈ X, k < w.heap.size) (hz : ∀ z ∈ Z, z ∈ X ∨ w.heap.size ≤ z) (ha : w.heap.size ≤ a1) (ha2 : a1 < w7.heap.size) (hs : sb < w.heap.size) (hsx : sb ∉ X) (hF : Frame [sb, a1] W W1) :
    DiskAt (W1.putObj DD (.deferred none)) 107 111 db Y Dm ∧ Fresh w X Y ∧ Frame (sb :: X) w (W1.putObj DD (.deferred none)) := by
  have hlt := hB.size
  have hdl := h.dlt
  have hw := h.frame.size
  have hP : Frame [DD] W1 (W1.putObj DD (.deferred none)) := by
    refine ⟨rfl, rfl, rfl, by simp [World.putObj], fun k _ hk => World.putObj_heap_other (fun e => hk (by simp [e]))⟩
  have h1 : ∀ k ∈ Y, k ∉ [sb, a1] := fun k hk hm => by
    simp only [List.mem_cons, List.not_mem_nil, or_false] at hm
    rcases h.fresh k hk with g | g
    · rcases hm with rfl | rfl
      · exact hsx g
      · have := hx _ g
        omega
    · rcases hm with rfl | rfl <;> omega
  refine ⟨(h.disk.frame hF h1).frame hP (fun k hk hm => h.ddY (by rw [← List.mem_singleton.1 hm]; exact hk)), fun k hk => (h.fresh k hk).elim .inl (fun g => .inr (by omega)), ?_⟩
  have f1 : Frame (sb :: X) w w7 := (Frame.of_below [] hB).mono (by simp)
  have f2 := f1.then' h.frame (fun b hb => (hz b hb).elim (fun e => .inl (List.mem_cons_of_mem _ e)) .inr)
  have f3 := f2.then' hF (fun b hb => by
    simp only [List.mem_cons, List.not_mem_nil, or_false] at hb
    rcases hb with rfl | rfl
    · exact .inl (by simp)
    · exact .inr ha)
  exact f3.then' hP (fun b hb => .inr (by rw [List.mem_singleton.1 hb]; omega))

theorem res58 (tmps : Array Value) (w : World) (a1 m : Nat) (ht : tmps[2]? = some (.pointer (some ⟨a1, 0, none⟩))) (hc : w.cell? ⟨a1, 0, none⟩ = some (errV m)) : (results Try.f58 tmps).run Try.prog w = .ok (errV m) w := by
  by_cases h : m = 0
  · subst h
    have e0 : errV 0 = .nilIface := rfl
    rw [e0] at hc ⊢
    simp [results, Try.results58, go_sem, ht, hc]
  · have e0 : errV m = .iface 101 (.int .i64 (m : Int)) := by simp [errV, h]
    rw [e0] at hc ⊢
    simp [results, Try.results58, go_sem, ht, hc]

theorem ckD_stop0 {D Dm : DM} {h : HM} {t : ByteArray} {m : Nat} (h1 : ckWrites (2 + h.side * 44) t D 0 (List.range (chunks t.size)) = (m, Dm)) (hm : m ≠ 0) : ckD D h t = (m, Dm) := by
  unfold ckD
  rw [h1, if_neg hm]
theorem ckD_stop1 {D D1 D2 : DM} {h : HM} {t : ByteArray} {m : Nat} (h1 : ckWrites (2 + h.side * 44) t D 0 (List.range (chunks t.size)) = (0, D1)) (h2 : D1.flush = (m, D2)) (hm : m ≠ 0) : ckD D h t = (m, D2) := by
  unfold ckD
  rw [h1, if_pos rfl, h2, if_neg hm]
theorem ckD_stop2 {D D1 D2 D3 : DM} {h : HM} {t : ByteArray} {m : Nat} (h1 : ckWrites (2 + h.side * 44) t D 0 (List.range (chunks t.size)) = (0, D1)) (h2 : D1.flush = (0, D2)) (h3 : D2.write ((h.epoch % 2 : Nat) : Int) (headB h) = (m, D3)) (hm : m ≠ 0) : ckD D h t = (m, D3) := by
  unfold ckD
  rw [h1, if_pos rfl, h2, if_pos rfl, h3, if_neg hm]
theorem ckD_all {D D1 D2 D3 : DM} {h : HM} {t : ByteArray} {r : Nat × DM} (h1 : ckWrites (2 + h.side * 44) t D 0 (List.range (chunks t.size)) = (0, D1)) (h2 : D1.flush = (0, D2)) (h3 : D2.write ((h.epoch % 2 : Nat) : Int) (headB h) = (0, D3)) (h4 : D3.flush = r) : ckD D h t = r := by
  unfold ckD
  rw [h1, if_pos rfl, h2, if_pos rfl, h3, if_pos rfl, h4]

theorem DM.wr_sz (D : DM) (i : Int) (s : ByteArray) (hz : AllSz D.now) : AllSz (D.write i s).2.now := by
  unfold DM.write
  split
  · exact hz
  · rename_i h
    obtain ⟨h1, -, -⟩ := D.step_now
    split
    · show AllSz (D.step.2.now.set _ _)
      rw [h1]
      intro x hx
      rcases List.mem_or_eq_of_mem_set hx with g | g
      · exact hz x g
      · rw [g]
        exact padTo_size _ (by omega)
    · show AllSz D.step.2.now
      rw [h1]
      exact hz

theorem ckWrites_sz (at_ : Nat) (t : ByteArray) : ∀ (ks : List Nat) (i : Nat) (D : DM), AllSz D.now → AllSz (ckWrites at_ t D i ks).2.now
  | [], i, D, h => h
  | k :: ks, i, D, h => by
    rw [ckWrites]
    split
    · exact ckWrites_sz at_ t ks _ _ (DM.wr_sz _ _ _ h)
    · exact DM.wr_sz _ _ _ h

theorem ckD_facts (D : DM) (h : HM) (t : ByteArray) (hz : AllSz D.now) : (ckD D h t).2.now.length = D.now.length ∧ AllSz (ckD D h t).2.now ∧ ((ckD D h t).1 = 0 → (ckD D h t).2.down = false) := by
  have a1 := (ckWrites_len (2 + h.side * 44) t (List.range (chunks t.size)) 0 D).1
  have a2 := ckWrites_sz (2 + h.side * 44) t (List.range (chunks t.size)) 0 D hz
  unfold ckD
  generalize ckWrites (2 + h.side * 44) t D 0 (List.range (chunks t.size)) = r1 at *
  have fl : ∀ E : DM, E.flush.2.now = E.now ∧ (E.flush.1 = 0 → E.flush.2.down = false) := fun E => by
    rcases flush_cases E with ⟨b1, -, b2, -, b3⟩ | ⟨b1, -, b2, -⟩
    · exact ⟨b2, fun _ => b3⟩
    · exact ⟨b2, fun g => by rw [b1] at g; cases g⟩
  split
  · have c1 := fl r1.2
    split
    · have c2 := DM.wr_len r1.2.flush.2 ((h.epoch % 2 : Nat) : Int) (headB h)
      have c3 := DM.wr_sz r1.2.flush.2 ((h.epoch % 2 : Nat) : Int) (headB h) (by rw [c1.1]; exact a2)
      generalize r1.2.flush.2.write ((h.epoch % 2 : Nat) : Int) (headB h) = r2 at *
      split
      · have c4 := fl r2.2
        exact ⟨by rw [c4.1, c2, c1.1, a1], by rw [c4.1]; exact c3, c4.2⟩
      · rename_i g
        exact ⟨by rw [c2, c1.1, a1], c3, fun e => absurd e g⟩
    · rename_i g
      exact ⟨by rw [c1.1, a1], by rw [c1.1]; exact a2, fun e => absurd e g⟩
  · rename_i g
    exact ⟨a1, a2, fun e => absurd e g⟩

/-- The store's struct, set anew. -/
def stoSet (w : World) (sb : Nat) (x1 x2 x3 x4 x5 : Value) : World :=
  ((((w.setCell ⟨sb, 1, none⟩ x1).setCell ⟨sb, 2, none⟩ x2).setCell ⟨sb, 3, none⟩ x3).setCell ⟨sb, 4, none⟩ x4).setCell ⟨sb, 5, none⟩ x5
theorem stoSet_heap {w : World} {sb : Nat} {a0 a1 a2 a3 a4 a5 a6 : Value} (h : w.heap[sb]? = some (.cells #[a0, a1, a2, a3, a4, a5, a6] 145 (0, 0))) (x1 x2 x3 x4 x5 : Value) : (stoSet w sb x1 x2 x3 x4 x5).heap[sb]? = some (.cells #[a0, x1, x2, x3, x4, x5, a6] 145 (0, 0)) :=
  heap_set_same 5 x5 (heap_set_same 4 x4 (heap_set_same 3 x3 (heap_set_same 2 x2 (heap_set_same 1 x1 h))))
theorem stoSet_frame (w : World) (sb : Nat) (x1 x2 x3 x4 x5 : Value) : Frame [sb] w (stoSet w sb x1 x2 x3 x4 x5) :=
  ((((((Frame.refl [sb] w).set (p := ⟨sb, 1, none⟩) (.inl (by simp)) x1).set (p := ⟨sb, 2, none⟩) (.inl (by simp)) x2).set (p := ⟨sb, 3, none⟩) (.inl (by simp)) x3).set (p := ⟨sb, 4, none⟩) (.inl (by simp)) x4).set (p := ⟨sb, 5, none⟩) (.inl (by simp)) x5)

theorem sto4_heap (w : World) (sb : Nat) (x1 x2 x3 x4 : Value) {k : Nat} (hk : k ≠ sb) : ((((w.setCell ⟨sb, 1, none⟩ x1).setCell ⟨sb, 2, none⟩ x2).setCell ⟨sb, 3, none⟩ x3).setCell ⟨sb, 4, none⟩ x4).heap[k]? = w.heap[k]? :=
  (heap_set_other _ _ _ (show k ≠ sb from hk)).trans ((heap_set_other _ _ _ (show k ≠ sb from hk)).trans ((heap_set_other _ _ _ (show k ≠ sb from hk)).trans (heap_set_other _ _ _ (show k ≠ sb from hk))))

theorem CkT.good {w w7 W W0 : World} {X Z Y : List Nat} {db lb a1 sb DD n : Nat} {Dm : DM} {h H : HM} {vr v : Value} {lb' : Nat} {LL : LM} (hc : CkT w7 X Z db DD Y Dm W) (hF : Frame [sb] W W0) (hS : StoAt W0 sb db lb' H vr) (hL : LogAt W lb' db LL) (hB : Below w.heap.size w w7) (hx : ∀ k ∈ X, k < w.heap.size) (hz : ∀ z ∈ Z, z ∈ X ∨ w.heap.size ≤ z)
    (ha : w.heap.size ≤ a1) (ha2 : a1 < w7.heap.size) (hs : sb < w.heap.size) (hsx : sb ∉ X) (hl1 : lb' ∉ Y) (hl2 : lb' ≠ DD) (hl3 : w7.heap.size ≤ lb') (hLL : LL = ⟨90, n - 90, H.first, (scan H.first 0 (secs Dm 90 (n - 90)) [] [] 0).2⟩) :
    CkRes w sb db lb X h vr H n (0, Dm) ((W0.setCell ⟨a1, 0, none⟩ v).putObj DD (.deferred none)) := by
  have hF' : Frame [sb, a1] W (W0.setCell ⟨a1, 0, none⟩ v) := (hF.mono (by simp)).set (p := ⟨a1, 0, none⟩) (.inl (by simp)) v
  obtain ⟨g1, g2, g3⟩ := hc.fin hB hx hz ha ha2 hs hsx hF'
  have n1 := hB.size
  have n2 := hc.dlt
  refine ⟨Y, g1, g2, g3, .inr ⟨rfl, lb', by omega, hl1, ?_, ?_⟩⟩
  · have h2 : ((W0.setCell ⟨a1, 0, none⟩ v).putObj DD (.deferred none)).heap[sb]? = (W0.setCell ⟨a1, 0, none⟩ v).heap[sb]? := World.putObj_heap_other (by omega)
    exact (h2.trans (heap_set_other _ _ _ (show sb ≠ a1 by omega))).trans hS
  · have h2 : ((W0.setCell ⟨a1, 0, none⟩ v).putObj DD (.deferred none)).heap[lb']? = (W0.setCell ⟨a1, 0, none⟩ v).heap[lb']? := World.putObj_heap_other hl2
    rw [← hLL]
    exact (h2.trans (heap_set_other _ _ _ (show lb' ≠ a1 by omega))).trans (hF.heap hL (by simp; omega))

theorem CkT.fail {w w7 W W1 : World} {X Z Y : List Nat} {db lb a1 sb DD m n : Nat} {Dm : DM} {h H : HM} {vr : Value} (hc : CkT w7 X Z db DD Y Dm W) (hF : Frame [sb, a1] W W1) (hS : StoAt W1 sb db lb h vr) (hB : Below w.heap.size w w7) (hx : ∀ k ∈ X, k < w.heap.size) (hz : ∀ z ∈ Z, z ∈ X ∨ w.heap.size ≤ z) (ha : w.heap.size ≤ a1) (ha2 : a1 < w7.heap.size)
    (hs : sb < w.heap.size) (hsx : sb ∉ X) (hm : m ≠ 0) : CkRes w sb db lb X h vr H n (m, Dm) (W1.putObj DD (.deferred none)) := by
  obtain ⟨g1, g2, g3⟩ := hc.fin hB hx hz ha ha2 hs hsx hF
  have n1 := hB.size
  have n2 := hc.dlt
  refine ⟨Y, g1, g2, g3, .inl ⟨hm, ?_⟩⟩
  have h2 : (W1.putObj DD (.deferred none)).heap[sb]? = W1.heap[sb]? := World.putObj_heap_other (by omega)
  exact h2.trans hS

theorem StoAt.set {W : World} {sb db lb a1 : Nat} {h : HM} {vr : Value} (hS : StoAt W sb db lb h vr) (hn : sb ≠ a1) (v : Value) : StoAt (W.setCell ⟨a1, 0, none⟩ v) sb db lb h vr := (heap_set_other _ _ _ (show sb ≠ a1 from hn)).trans hS
theorem frame_res (W : World) (sb a1 : Nat) (v : Value) : Frame [sb, a1] W (W.setCell ⟨a1, 0, none⟩ v) := (Frame.refl [sb, a1] W).set (p := ⟨a1, 0, none⟩) (.inl (by simp)) v
theorem cell_end {W : World} {a1 DD : Nat} {v : Value} (hA : W.heap[a1]? = some (.cells #[v] 27 (0, 0))) (hd : DD ≠ a1) : (W.putObj DD (.deferred none)).cell? ⟨a1, 0, none⟩ = some v :=
  cell_of ((World.putObj_heap_other (fun e => hd e.symm)).trans hA) 0
theorem ck_range (k n : Nat) (h : k ≤ n) : List.range k ++ List.range' k (n - k) = List.range n := by
  have h1 := List.range'_append_1 (s := 0) (m := k) (n := n - k)
  rw [Nat.zero_add, show k + (n - k) = n by omega] at h1
  rw [List.range_eq_range', List.range_eq_range']
  exact h1

set_option maxHeartbeats 8000000 in
set_option maxRecDepth 100000 in
theorem checkpoint_any (sb db lb : Nat) (X : List Nat) (D : DM) (L : LM) (h : HM) (vr : Value) (rows : List Chg) (w : World) (hD : DiskAt w 107 111 db X D) (hL : LogAt w lb db L) (hS : StoAt w sb db lb h vr) (hsX : sb ∉ X)
    (hR : ChangesAt w vr rows) (hG : GoodRows rows) (hn1 : 104 ≤ D.now.length) (hz : AllSz D.now) (hmany : L.many ≤ 1000) (hfirst : L.first < 1000000000) (hfirst1 : 1 ≤ L.first) (hep : h.epoch < 1000000000) (hside : h.side ≤ 1) (hwait : D.wait.length < 9000) :
    Calls Try.prog 58 #[.pointer (some ⟨sb, 0, none⟩)] w
      (Ret (errV (ckD D (nextH h (allB rows).size (L.first + L.many)) (allB rows)).1) (CkRes w sb db lb X h vr (nextH h (allB rows).size (L.first + L.many)) D.now.length (ckD D (nextH h (allB rows).size (L.first + L.many)) (allB rows)))) := by
  refine (callsIn_wide (n := 3)).1 ?_
  refine callsIn_of_wp_marks Try.func58 rfl trivial ?_
  refine wpIn_wide.2 ?_
  simp only [Try.ntmps58, List.size_toArray, List.length_cons, List.length_nil, Nat.reduceAdd, Nat.reduceSub, Array.replicate_succ, Array.replicate_zero, List.push_toArray, List.append_toArray, List.nil_append, List.cons_append]
  have HDD := Lib.hid hD
  have HL := Lib.hid hL
  have HS := Lib.hid hS
  have HR := Lib.hid hR
  have HG := Lib.hid hG
  have HB := Lib.hid (fun (_ : Unit) => And.intro hn1 (And.intro hz (And.intro hmany (And.intro hfirst (And.intro hep (And.intro hwait hfirst1))))))
  have hts := allB_size rows hG.ok
  have htm := hG.most
  have HT := Lib.hid (fun (_ : Unit) => show (allB rows).size ≤ 6080 by omega)
  have HAB := Lib.hid (((Below.refl w.heap.size w).alloc (Nat.le_refl _) (.cells #[.pointer (some ⟨sb, 0, none⟩)] 90)).alloc (by rw [size_alloc]; omega) (.cells #[.nilIface] 27))
  have HA0 := Lib.hid (show ((w.alloc (.cells #[.pointer (some ⟨sb, 0, none⟩)] 90)).alloc (.cells #[.nilIface] 27)).heap[w.heap.size]? = some (.cells #[.pointer (some ⟨sb, 0, none⟩)] 90 (0, 0)) by
    rw [heap_alloc_old _ _ (by rw [size_alloc]; omega), heap_alloc_new])
  have HA1 := Lib.hid (show ((w.alloc (.cells #[.pointer (some ⟨sb, 0, none⟩)] 90)).alloc (.cells #[.nilIface] 27)).heap[w.heap.size + 1]? = some (.cells #[.nilIface] 27 (0, 0)) by
    rw [← size_alloc w (.cells #[.pointer (some ⟨sb, 0, none⟩)] 90), heap_alloc_new])
  clear hD hL hS hR hG hn1 hz hmany hfirst hfirst1 hep hwait hts htm
  have HS1 := Lib.hid (show StoAt ((w.alloc (.cells #[.pointer (some ⟨sb, 0, none⟩)] 90)).alloc (.cells #[.nilIface] 27)) sb db lb h vr from (HAB.out.block _ (lt_of_heap HS.out)).trans HS.out)
  obtain ⟨s0, s1, s2, s3, s4, s5, s6⟩ := HS1.out.cells
  obtain ⟨vo, vn, vc, rfl⟩ : ∃ ao n cap, vr = .slice ao n cap := by
    obtain ⟨ao, cap, hv, -⟩ := HR.out.form
    exact ⟨_, _, _, hv⟩
  go_wp2_with fail
  have hall := allRows_good _ rows ((w.alloc (.cells #[.pointer (some ⟨sb, 0, none⟩)] 90)).alloc (.cells #[.nilIface] 27)) (HR.out.below HAB.out) HG.out.ok HG.out.most
  refine hall.mono ?_
  clear hall s0 s1 s2 s3 s4 s5 s6
  rintro e w2 ⟨rfl, hB2⟩
  have HB2 := Lib.hid (HAB.out.trans (hB2.mono HAB.out.size))
  have HA02 := Lib.hid ((hB2.block _ (lt_of_heap HA0.out)).trans HA0.out)
  have HA12 := Lib.hid ((hB2.block _ (lt_of_heap HA1.out)).trans HA1.out)
  clear hB2 HAB HA0 HA1 HS1
  have HS2 := Lib.hid (show StoAt w2 sb db lb h (.slice vo vn vc) from (HB2.out.block _ (lt_of_heap HS.out)).trans HS.out)
  go_wp2_with fail
  obtain ⟨he0, hz0, hm0, hf0, hep0, hwt0⟩ := HB.out ()
  have HSD := Lib.hid (fun (_ : Unit) => hside)
  obtain ⟨ep, sd, sz, ft⟩ := h
  simp only at hside hep0
  have we : IntKind.i64.wrap ((ep : Int) + 1) = (ep : Int) + 1 := IntWalk.i64_in _ (by omega)
  have ws : IntKind.i64.wrap (1 - (sd : Int)) = 1 - (sd : Int) := IntWalk.i64_in _ (by omega)
  clear he0 hz0 hm0 hf0 hep0 hwt0 hside
  have HL2 := Lib.hid (show LogAt w2 lb db L from (HB2.out.block _ (lt_of_heap HL.out)).trans HL.out)
  have HUP := Lib.hid (fun (w5 : World) (hT : Below w2.heap.size w2 w5) => show w5.heap[w.heap.size]? = _ ∧ StoAt w5 sb db lb _ _ ∧ LogAt w5 lb db L from ⟨(hT.block _ (lt_of_heap HA02.out)).trans HA02.out, (hT.block _ (lt_of_heap HS2.out)).trans HS2.out, (hT.block _ (lt_of_heap HL2.out)).trans HL2.out⟩)
  generalize hta : allB rows = tx at *
  have HTA := Lib.hid (fun (_ : Unit) => hta)
  clear hta
  refine wp_region_fork (fun w5 => Below w2.heap.size w2 w5) 113 [0, 6, 12, 14, 1, 7, 13, 15, 2, 8, 16, 3, 9, 17, 4, 10, 5, 11] [(18, [([19], [20], true), ([], [21], false)]), (20, [([], [18], true), ([19], [21], false)])] (by kernel_rfl) (by kernel_rfl) ?_
  apply wpFork_mk
  case hT => exact (Below.refl _ _).drew
  case hn => exact Nat.le_refl _
  case hq =>
    intro w5 hT
    obtain ⟨u0, u1, u2⟩ := HUP.out w5 hT
    have a0 := cell_of u0 0
    obtain ⟨s0, s1, s2, s3, s4, s5, s6⟩ := u1.cells
    simp only [List.getElem?_toArray, List.getElem?_cons_zero] at a0
    simp only [picked, List.filterMap_cons, List.filterMap_nil, List.getElem?_cons_zero, List.getElem?_cons_succ]
    repeat still_step
    exact wpStill_nil rfl
  simp only [wpForks, picked, List.filterMap_cons, List.filterMap_nil, List.getElem?_cons_zero, List.getElem?_cons_succ]
  clear we ws
  have hT0 : Below w2.heap.size w2 w2.drew := (Below.refl _ _).drew
  have HT0 := Lib.hid hT0
  clear hT0
  refine ⟨?_, ?_, trivial⟩
  · go_wp2_with fail
    refine (next_any lb db L _ (HUP.out _ HT0.out).2.2 (HB.out ()).2.2.1 (by have := (HB.out ()).2.2.2.1; omega)).mono ?_
    rintro _ w3 ⟨rfl, nq, rfl⟩
    have HT3 := Lib.hid (show Below w2.heap.size w2 (w2.drew.drewN nq) from below_drewN HT0.out nq)
    have hsz3 : (w2.drew.drewN nq).heap.size = w2.heap.size := rfl
    generalize w2.drew.drewN nq = w3 at *
    go_wp2_with fail
    refine OnlyNormal.mk ⟨HT3.out, ?_⟩
    apply wpStages_keep
    case hT => exact HT3.out
    case hn => exact Nat.le_refl _
    case hq =>
      intro w5 hT
      simp only [picked, List.filterMap_cons, List.filterMap_nil, List.getElem?_cons_zero, List.getElem?_cons_succ]
      repeat still_step
      exact wpStill_nil rfl
    simp only [picked, List.filterMap_cons, List.filterMap_nil, List.getElem?_cons_zero, List.getElem?_cons_succ]
    go_wp2_with fail
    have hT4 := HT3.out.alloc HT3.out.size (.cells #[.int .i64 0, .int .i64 0, .int .i64 0, .int .i64 0] 143)
    refine OnlyNormal.mk ⟨hT4, ?_⟩
    apply wpStages_seq
    simp only [picked, List.filterMap_cons, List.filterMap_nil, List.getElem?_cons_zero, List.getElem?_cons_succ]
    have hbx := heap_alloc_new w3 (.cells #[.int .i64 0, .int .i64 0, .int .i64 0, .int .i64 0] 143)
    have k0 := cell_of hbx 0
    have k1 := cell_of hbx 1
    have k2 := cell_of hbx 2
    have k3 := cell_of hbx 3
    have z0 := frozen_of hbx
    simp only [List.getElem?_toArray, List.getElem?_cons_zero, List.getElem?_cons_succ] at k0 k1 k2 k3
    go_wp2_with fail
    refine OnlyNormal.mk (wpStages_nil ?_)
    clear hT4 hbx k0 k1 k2 k3 z0
    have HA2 := Lib.hid (heap_alloc_new w3 (.cells #[.int .i64 ((ep : Int) + 1), .int .i64 (1 - (sd : Int)), .int .i64 (tx.size : Int), .int .i64 ((L.first : Int) + (L.many : Int))] 143))
    have HT6 := Lib.hid (HT3.out.alloc HT3.out.size (.cells #[.int .i64 ((ep : Int) + 1), .int .i64 (1 - (sd : Int)), .int .i64 (tx.size : Int), .int .i64 ((L.first : Int) + (L.many : Int))] 143))
    have HGE := Lib.hid HT3.out.size
    generalize w3.alloc (.cells #[.int .i64 ((ep : Int) + 1), .int .i64 (1 - (sd : Int)), .int .i64 (tx.size : Int), .int .i64 ((L.first : Int) + (L.many : Int))] 143) = w6 at *
    rw [hsz3] at HA2
    clear hsz3 HGE
    obtain ⟨a2, ha2⟩ : ∃ a2, a2 = w2.heap.size := ⟨_, rfl⟩
    rw [← ha2] at HA2 ⊢
    have HGE := Lib.hid (show w2.heap.size ≤ a2 by omega)
    clear ha2
    have HB6 := Lib.hid (HB2.out.trans (HT6.out.mono HB2.out.size))
    have HA06 := Lib.hid ((HT6.out.block _ (lt_of_heap HA02.out)).trans HA02.out)
    have HA16 := Lib.hid ((HT6.out.block _ (lt_of_heap HA12.out)).trans HA12.out)
    clear HT0
    have hconv := Lib.run_convert_string_bytes (P := Try.prog) (w6.alloc (.cells #[.int .i64 0] 3)) 9 129 5 tx Try.underlying9 Try.underlying129 Try.underlying5
    go_wp2_with fail
    refine (chunkMake_any _ _ _ _).mono ?_
    clear hconv
    rintro _ w7 ⟨rfl, hw7⟩
    have HBW0 := Lib.hid (fun (k : Nat) (hk : k < w6.heap.size + 1) => Lib.bytesWorld_at_old (w6.alloc (.cells #[.int .i64 0] 3)) 5 tx k (by rw [size_alloc]; exact hk))
    have HBWN := Lib.hid (Lib.bytesWorld_at_new (w6.alloc (.cells #[.int .i64 0] 3)) 5 tx)
    have HSZB := Lib.hid (show (Lib.bytesWorld (w6.alloc (.cells #[.int .i64 0] 3)) 5 tx).heap.size = w6.heap.size + 2 by simp [Lib.bytesWorld, World.freeze])
    have hcap := grownCap_ge (w6.alloc (.cells #[.int .i64 0] 3)) tx.size 0 5
    generalize grownCap (w6.alloc (.cells #[.int .i64 0] 3)) tx.size 0 5 = cap7 at *
    rw [HSZB.out]
    have hbs : w7.heap[w6.heap.size + 2]? = some (.cells #[.slice (some ⟨w6.heap.size + 1, 0, none⟩) tx.size cap7] 129 (0, 0)) := by
      rw [hw7, heap_alloc_old _ _ (by rw [size_alloc, HSZB.out]; omega), ← HSZB.out, heap_alloc_new]
    have hbn : w7.heap[w6.heap.size + 3]? = some (.cells #[.int .i64 140] 3 (0, 0)) := by
      have h := heap_alloc_new ((Lib.bytesWorld (w6.alloc (.cells #[.int .i64 0] 3)) 5 tx).alloc (.cells #[.slice (some ⟨w6.heap.size + 1, 0, none⟩) tx.size cap7] 129)) (.cells #[.int .i64 140] 3)
      rw [size_alloc, HSZB.out] at h
      rw [hw7]
      exact h
    have hold : ∀ k, k < w6.heap.size + 2 → w7.heap[k]? = (Lib.bytesWorld (w6.alloc (.cells #[.int .i64 0] 3)) 5 tx).heap[k]? := fun k hk => by
      rw [hw7, heap_alloc_old _ _ (by rw [size_alloc, HSZB.out]; omega), heap_alloc_old _ _ (by rw [HSZB.out]; exact hk)]
    have hF7 : ∀ k, k < w6.heap.size → w7.heap[k]? = w6.heap[k]? := fun k hk => by
      rw [hold k (by omega), HBW0.out k (by omega), heap_alloc_old _ _ hk]
    have hA3 : w7.heap[w6.heap.size]? = some (.cells #[.int .i64 0] 3 (0, 0)) := by
      rw [hold _ (by omega), HBW0.out _ (by omega), heap_alloc_new]
    have hby : ∀ j, j < tx.size → w7.cell? ⟨w6.heap.size + 1, j, none⟩ = some (.int .u8 ((tx.data.toList.getD j 0).toNat : Int)) := fun j hj => by
      have h := Lib.bytesWorld_cell (w6.alloc (.cells #[.int .i64 0] 3)) 5 tx j hj
      rw [size_alloc] at h
      have h2 := hold (w6.heap.size + 1) (by omega)
      rw [World.cell?_of_block (a := ⟨w6.heap.size + 1, j, none⟩) h2]
      exact h
    have hsz7 : w7.heap.size = w6.heap.size + 4 := by rw [hw7, size_alloc, size_alloc, HSZB.out]
    have HSZ7 := Lib.hid hsz7
    have HB7 := Lib.hid (show Below w.heap.size w w7 by
      have g1 := HB6.out.size
      have b1 : Below w.heap.size w6 (w6.alloc (.cells #[.int .i64 0] 3)) := (Below.refl w.heap.size w6).alloc g1 _
      have b2 : Below w.heap.size (w6.alloc (.cells #[.int .i64 0] 3)) (Lib.bytesWorld (w6.alloc (.cells #[.int .i64 0] 3)) 5 tx) := ⟨rfl, rfl, rfl, by rw [Lib.bytesWorld_size]; omega, fun k hk => Lib.bytesWorld_at_old _ 5 tx k (by rw [size_alloc]; omega)⟩
      rw [hw7]
      exact HB6.out.trans (((b1.trans b2).alloc (by rw [HSZB.out]; omega) _).alloc (by rw [size_alloc, HSZB.out]; omega) _))
    have HA37 := Lib.hid hA3
    have HBY := Lib.hid hby
    have HF7 := Lib.hid hF7
    have HBS := Lib.hid hbs
    have HBN := Lib.hid hbn
    have HCAP := Lib.hid hcap
    clear hbs hbn hold hF7 hA3 hby hsz7 hcap hw7 HBW0 HBWN HSZB
    have HDS7 := Lib.hid (show DiskAt w7 107 111 db X D from HDD.out.frame (Frame.of_below [] HB7.out) (by simp))
    have HXLT := Lib.hid (show ∀ k ∈ X, k < w.heap.size from HDD.out.lt)
    have HSX := Lib.hid (fun (_ : Unit) => hsX)
    have HSBL := Lib.hid (show sb < w.heap.size from lt_of_heap HS.out)
    have HA1L := Lib.hid (show w.heap.size + 1 < w6.heap.size from lt_of_heap HA16.out)
    have HA2L := Lib.hid (show a2 < w6.heap.size from lt_of_heap HA2.out)
    have HWL := Lib.hid (show w.heap.size ≤ a2 from Nat.le_trans HB2.out.size HGE.out)
    have HA2N := Lib.hid (show a2 ≠ w.heap.size + 1 by have := lt_of_heap HA12.out; have := HGE.out; omega)
    have HA07 := Lib.hid ((HF7.out _ (by have := HA1L.out; omega)).trans HA06.out)
    have HA17 := Lib.hid ((HF7.out _ HA1L.out).trans HA16.out)
    have HA27 := Lib.hid ((HF7.out _ HA2L.out).trans HA2.out)
    have HST7 := Lib.hid (show StoAt w7 sb db lb ⟨ep, sd, sz, ft⟩ (.slice vo vn vc) from (HB7.out.block _ HSBL.out).trans HS.out)
    clear hsX
    obtain ⟨m44, hm44⟩ : ∃ m44, m44 = (1 - sd) * 44 := ⟨_, rfl⟩
    obtain ⟨at_, hat⟩ : ∃ at_, at_ = 2 + m44 := ⟨_, rfl⟩
    have HAT := Lib.hid (fun (_ : Unit) => show at_ = 2 + (1 - sd) * 44 by omega)
    have HSQ := Lib.hid (fun (_ : Unit) => show at_ ≤ 46 ∧ IntKind.i64.wrap ((1 - (sd : Int)) * 44) = (m44 : Int) ∧ IntKind.i64.wrap (2 + (m44 : Int)) = (at_ : Int) by
      have := HSD.out ()
      refine ⟨by omega, ?_, ?_⟩
      · rw [show (1 - (sd : Int)) * 44 = (m44 : Int) by omega]
        exact IntWalk.i64_in _ (by omega)
      · rw [show (2 + (m44 : Int)) = (at_ : Int) by omega]
        exact IntWalk.i64_in _ (by omega))
    clear hm44 hat
    have HI0 := Lib.hid (show CkI w7 X at_ tx D db w6.heap.size [] w7 by
      obtain ⟨Y7, hY1, hY2, hY3⟩ := HDS7.out.tight
      exact ⟨rfl, ⟨Y7, hY1, hY2, fun k hk => .inl (hY3 k hk)⟩, Frame.refl _ _, HA37.out⟩)
    have KEEP := Lib.hid (fun (W : World) (Z : List Nat) (hF : Frame Z w7 W) (hZ : ∀ z ∈ Z, z ∈ X ∨ z = w.heap.size + 1 ∨ z = w6.heap.size) =>
      show W.heap[w.heap.size]? = _ ∧ StoAt W sb db lb ⟨ep, sd, sz, ft⟩ (.slice vo vn vc) ∧ W.heap[a2]? = _ ∧ W.heap[w6.heap.size + 2]? = _ ∧ W.heap[w6.heap.size + 3]? = _ ∧ (∀ j, j < tx.size → W.cell? ⟨w6.heap.size + 1, j, none⟩ = _) by
        have h1 := HA1L.out
        have h2 := HA2L.out
        have h3 := HSBL.out
        have h4 := HWL.out
        have h5 := HA2N.out
        have hn : ∀ k, k ∉ X → k ≠ w.heap.size + 1 → k ≠ w6.heap.size → k ∉ Z := fun k a b c hk => by
          rcases hZ k hk with q | q | q
          · exact a q
          · exact b q
          · exact c q
        have hx : ∀ k, w.heap.size ≤ k → k ∉ X := fun k hk hm => by
          have := HXLT.out k hm
          omega
        refine ⟨hF.heap HA07.out (hn _ (hx _ (by omega)) (by omega) (by omega)), hF.heap HST7.out (hn _ (HSX.out ()) (by omega) (by omega)), hF.heap HA27.out (hn _ (hx _ (by omega)) (by omega) (by omega)),
          hF.heap HBS.out (hn _ (hx _ (by omega)) (by omega) (by omega)), hF.heap HBN.out (hn _ (hx _ (by omega)) (by omega) (by omega)), fun j hj => hF.cell (HBY.out j hj) (hn _ (hx _ (by show w.heap.size ≤ w6.heap.size + 1; omega)) (by show w6.heap.size + 1 ≠ w.heap.size + 1; omega) (by show w6.heap.size + 1 ≠ w6.heap.size; omega))⟩)
    go_wp2_with fail
    refine (wpIn_wide (n := 3)).1 ?_
    refine chunkLoop 39 6 (w6.heap.size + 2) (w6.heap.size + 3) (w6.heap.size + 1) tx.size cap7 ?hg HCAP.out (by have := HT.out (); omega) HBS.out HBN.out (CkI w7 X at_ tx D db w6.heap.size) (CkX w7 X at_ tx D db (w.heap.size + 1) w6.heap.size) (CkI.own w7 X at_ tx D db w6.heap.size) (CkX.own w7 X at_ tx D db (w.heap.size + 1) w6.heap.size) HI0.out ?assign ?body ?done ?stop
    case hg => rfl
    case assign =>
      intro l x W K hK
      gi_wp2
      exact hK
    case body =>
      intro l pre x W hi hlen
      obtain ⟨h1, ⟨Y, hYD, hYC, hYF⟩, hFr, hAi⟩ := hi
      obtain ⟨k0, kS, k2, kbs, kbn, kby⟩ := KEEP.out W _ hFr (fun z hz => (List.mem_cons.1 hz).elim (fun e => .inr (.inr e)) (fun e => .inl e))
      have hA1 := hFr.heap HA17.out (fun hm => (List.mem_cons.1 hm).elim (fun e => by have := HA1L.out; omega) (fun e => by have := HXLT.out _ e; omega))
      have c1 := cell_of k0 0
      obtain ⟨s0, s1, s2, s3, s4, s5, s6⟩ := kS.cells
      have c2 := cell_of k2 1
      have c3 := cell_of hAi 0
      simp only [List.getElem?_toArray, List.getElem?_cons_zero, List.getElem?_cons_succ] at c1 c2 c3
      have hconv := chunk_conv W.drew (w6.heap.size + 1) tx x (fun j hj => by rw [World.cell?_drew]; exact kby j hj)
      have hwl := (ckWrites_len at_ tx pre 0 D).2
      have hch : pre.length < 44 := by
        have := HT.out ()
        unfold chunks at hlen
        omega
      obtain ⟨q0, q1, q2⟩ := HSQ.out ()
      obtain ⟨p, hp⟩ : ∃ p, p = at_ + pre.length := ⟨_, rfl⟩
      have q3 : IntKind.i64.wrap ((at_ : Int) + (pre.length : Int)) = (p : Int) := by
        rw [show (at_ : Int) + (pre.length : Int) = (p : Int) by omega]
        exact IntWalk.i64_in _ (by omega)
      have q4 : IntKind.i64.wrap ((pre.length : Int) + 1) = (pre.length : Int) + 1 := IntWalk.i64_in _ (by omega)
      have HI := Lib.hid (show CkI w7 X at_ tx D db w6.heap.size pre W from ⟨h1, ⟨Y, hYD, hYC, hYF⟩, hFr, hAi⟩)
      have HWT := Lib.hid (show (ckWrites at_ tx D 0 pre).2.wait.length < 10000 by have := (HB.out ()).2.2.2.2.2.1; omega)
      have HP := Lib.hid (fun (_ : Unit) => hp)
      have HYD := Lib.hid hYD
      have HYC := Lib.hid hYC
      have HYF := Lib.hid hYF
      have HFR := Lib.hid hFr
      have HA1 := Lib.hid hA1
      have HAI := Lib.hid hAi
      have HKBS := Lib.hid kbs
      have HKBN := Lib.hid kbn
      have H1 := Lib.hid h1
      clear hwl q0 hch h1 hYD hYC hYF hFr hAi hA1 k0 kS k2 kbs kbn kby hp hlen
      gi_wp2
      refine wpIn_region_plan (fun w2 => w2 = W.drew) 113 [([0, 4, 8, 10, 1, 5, 11, 2, 6, 3, 7, 9], [12, 13], false)] (by kernel_rfl) (by kernel_rfl) (by kernel_rfl) ?_
      apply wpStages_last
      case hT => rfl
      case hn => exact Nat.le_refl _
      case hq =>
        rintro w2 rfl
        simp only [picked, List.filterMap_cons, List.filterMap_nil, List.getElem?_cons_zero, List.getElem?_cons_succ]
        repeat still_step
        exact wpStill_nil rfl
      simp only [picked, List.filterMap_cons, List.filterMap_nil, List.getElem?_cons_zero, List.getElem?_cons_succ]
      clear q1 q2 q3 hconv s0 s1 s2 s3 s4 s5 s6 c1 c2
      go_wp2_with fail
      refine (write_any db Y _ _ _ W.drew HYD.out.drew HWT.out).mono ?_
      have hsn := ckWrites_snoc at_ tx pre x D H1.out
      rw [← HP.out ()] at hsn
      rw [← hsn]
      generalize hdm : ckWrites at_ tx D 0 (pre ++ [x]) = dm
      have HDM := Lib.hid hdm
      clear hdm hsn
      obtain ⟨m, Dm⟩ := dm
      rintro _ w8 ⟨rfl, Y8, hD8, hF8, hY8⟩
      obtain ⟨Y9, hD9, hC9, hs9⟩ := hD8.tight
      have HD9 := Lib.hid hD9
      have HC9 := Lib.hid hC9
      have HF8 := Lib.hid hF8.drew'
      have HFA := Lib.hid (HFR.out.then' hF8.drew' (fun b hb => (HYF.out b hb).elim (fun e => .inl (List.mem_cons_of_mem _ e)) .inr))
      have HFF := Lib.hid (show Fresh w7 X Y9 from fun k hk => (hY8 k (hs9 k hk)).elim (HYF.out k) (fun h => .inr (Nat.le_trans HFR.out.size h)))
      have hny : ∀ k, k < w7.heap.size → k ∉ X → k ∉ Y := fun k a b hk => (HYF.out k hk).elim b (fun h => by omega)
      have hx : ∀ k, w.heap.size ≤ k → k ∉ X := fun k hk hm => by
        have := HXLT.out k hm
        omega
      have g1 := HA1L.out
      have g2 := HSZ7.out
      have H8I := Lib.hid (HF8.out.heap HAI.out (hny _ (by omega) (hx _ (by omega))))
      have H8A := Lib.hid (HF8.out.heap HA1.out (hny _ (by omega) (hx _ (by omega))))
      have H8S := Lib.hid (HF8.out.block _ (lt_of_heap HKBS.out) (hny _ (by omega) (hx _ (by omega))))
      have H8N := Lib.hid (HF8.out.block _ (lt_of_heap HKBN.out) (hny _ (by omega) (hx _ (by omega))))
      clear hD8 hF8 hY8 hD9 hC9 hs9 hny hx g1 g2
      have c4 := cell_of H8I.out 0
      have z4 := frozen_of H8I.out
      have c5 := cell_of H8A.out 0
      have z5 := frozen_of H8A.out
      simp only [List.getElem?_toArray, List.getElem?_cons_zero] at c4 c5
      by_cases hm : m = 0
      · obtain rfl := hm
        have e0 : errV 0 = .nilIface := rfl
        go_wp2_with fail
        refine OnlyNormal.mk ?_
        gi_wp2
        have g1 := HA1L.out
        have g2 := HSZ7.out
        exact CkI.next HDM.out HAI.out HYC.out HF8.out HFA.out HD9.out HC9.out HFF.out H8I.out (by omega) (fun h => by have := HXLT.out _ h; omega) (by omega) (by omega) H8S.out H8N.out
      · have e0 : errV m = .iface 101 (.int .i64 (m : Int)) := by simp [errV, hm]
        have HM := Lib.hid hm
        have E0 := Lib.hid e0
        clear hm
        go_wp2_with fail
        refine OnlyNormal.mk ?_
        gi_wp2
        have g1 := HA1L.out
        have g2 := HSZ7.out
        have hst := CkX.stop (B := w7.heap.size) HDM.out HM.out HAI.out HA1.out HYC.out HF8.out HFA.out HD9.out HC9.out HFF.out H8A.out (by omega) (fun h => by have := HXLT.out _ h; omega)
        rw [E0.out] at hst
        exact hst
    case done =>
      intro DD W hD hi hK
      obtain ⟨h1, ⟨Y, hYD, hYC, hYF⟩, hFr, hAi⟩ := hi
      have HFR := Lib.hid hFr
      have HYD := Lib.hid hYD
      have HYF := Lib.hid hYF
      have H1 := Lib.hid h1
      have HK := Lib.hid hK
      have HDL := Lib.hid hD
      obtain ⟨k0, kS, k2, -, -, -⟩ := KEEP.out W _ hFr (fun z hz => (List.mem_cons.1 hz).elim (fun e => .inr (.inr e)) (fun e => .inl e))
      have hA1 := hFr.heap HA17.out (fun hm => (List.mem_cons.1 hm).elim (fun e => by have := HA1L.out; omega) (fun e => by have := HXLT.out _ e; omega))
      have HC := Lib.hid (show CkT w7 X (w6.heap.size :: X) db DD Y (ckWrites at_ tx D 0 (List.range (chunks tx.size))).2 W from
        ⟨hYD, hYF, hFr, hK, fun hm => cells_ne (hYC _ hm) ⟨_, hK, rfl⟩ rfl, hD, fun _ h => List.mem_cons_of_mem _ h⟩)
      have HWL1 := Lib.hid (ckWrites_len at_ tx (List.range (chunks tx.size)) 0 D)
      generalize hdm : ckWrites at_ tx D 0 (List.range (chunks tx.size)) = dm at *
      obtain ⟨m0, D1⟩ := dm
      simp only at h1
      obtain rfl := h1
      have HDM := Lib.hid hdm
      have c0 := cell_of k0 0
      obtain ⟨s0, s1, s2, s3, s4, s5, s6⟩ := kS.cells
      simp only [List.getElem?_toArray, List.getElem?_cons_zero] at c0
      clear hdm hYD hYC hYF hFr hAi hD hK k0 kS k2 hA1 HFR HYD HYF H1 HK HDL
      go_wp2_with fail
      refine (flush_any db Y D1 W HC.out.disk).mono ?_
      clear c0 s0 s1 s2 s3 s4 s5 s6
      generalize hfl : D1.flush = dm1
      have HFL := Lib.hid hfl
      clear hfl
      obtain ⟨m1, D2⟩ := dm1
      rintro _ w9 ⟨rfl, hD9, hF9⟩
      have HC9 := Lib.hid (HC.out.step hF9 (Fresh.refl _ _) hD9)
      clear hD9 hF9 
      have HZ := Lib.hid (fun (_ : Unit) => show ∀ z ∈ w6.heap.size :: X, z ∈ X ∨ z = w.heap.size + 1 ∨ z = w6.heap.size from fun z hz => (List.mem_cons.1 hz).elim (fun e => .inr (.inr e)) .inl)
      have HA1Z := Lib.hid (fun (_ : Unit) => show w.heap.size + 1 ∉ w6.heap.size :: X from fun hm => (List.mem_cons.1 hm).elim (fun e => by have := HA1L.out; omega) (fun e => by have := HXLT.out _ e; omega))
      obtain ⟨k0, kS, k2, -, -, -⟩ := KEEP.out w9 _ HC9.out.frame (HZ.out ())
      have kA := HC9.out.frame.heap HA17.out (HA1Z.out ())
      have r1 := cell_of kA 0
      have z1 := frozen_of kA
      have HRC9 := Lib.hid kA
      have c0 := cell_of k0 0
      obtain ⟨s0, s1, s2, s3, s4, s5, s6⟩ := kS.cells
      have c2 := cell_of k2 0
      have c3 := cell_of k2 1
      have c4 := cell_of k2 2
      have c5 := cell_of k2 3
      simp only [List.getElem?_toArray, List.getElem?_cons_zero, List.getElem?_cons_succ] at r1 c0 c2 c3 c4 c5
      clear k0 kS k2 kA
      by_cases hm1 : m1 = 0
      · obtain rfl := hm1
        have e0 : errV 0 = .nilIface := rfl
        go_wp2_with fail
        clear c0 c2 c3 c4 c5 s0 s1 s2 s3 s4 s5 s6 r1 z1
        have HHV := Lib.hid (fun (_ : Unit) => show HM.v (nextH ⟨ep, sd, sz, ft⟩ tx.size (L.first + L.many)) = .agg #[.int .i64 ((ep : Int) + 1), .int .i64 (1 - (sd : Int)), .int .i64 (tx.size : Int), .int .i64 ((L.first : Int) + (L.many : Int))] by
          have := HSD.out ()
          simp only [HM.v, nextH]
          rw [show ((1 - sd : Nat) : Int) = 1 - (sd : Int) by omega, Int.natCast_add, Int.natCast_add]
          rfl)
        obtain ⟨q, hq⟩ : ∃ q, q = (ep + 1) % 2 := ⟨_, rfl⟩
        have hrem : Int.tmod ((ep : Int) + 1) 2 = (q : Int) := by
          rw [show (ep : Int) + 1 = ((ep + 1 : Nat) : Int) by omega, show (2 : Int) = ((2 : Nat) : Int) from rfl, ← Int.ofNat_tmod, ← hq]
        have HQ := Lib.hid (fun (_ : Unit) => hq)
        have hqw : IntKind.i64.wrap (q : Int) = (q : Int) := IntWalk.i64_in _ (by omega)
        clear hq
        refine wp_region_plan (fun w5 => Below w9.heap.size w9 w5) 113 [([0, 4, 7, 1, 5, 2, 6, 3], [8], true), ([], [9, 10], false)] (by kernel_rfl) (by kernel_rfl) ?_
        apply wpStages_keep
        case hT => exact (Below.refl _ _).drew
        case hn => exact Nat.le_refl _
        case hq =>
          intro w5 hT
          obtain ⟨k0, kS, k2, -, -, -⟩ := KEEP.out w5 _ (HC9.out.below hT).frame (HZ.out ())
          have c0 := cell_of k0 0
          obtain ⟨s0, s1, s2, s3, s4, s5, s6⟩ := kS.cells
          have c2 := cell_of k2 0
          have c3 := cell_of k2 1
          have c4 := cell_of k2 2
          have c5 := cell_of k2 3
          simp only [List.getElem?_toArray, List.getElem?_cons_zero, List.getElem?_cons_succ] at c0 c2 c3 c4 c5
          clear k0 kS k2
          simp only [picked, List.filterMap_cons, List.filterMap_nil, List.getElem?_cons_zero, List.getElem?_cons_succ]
          repeat still_step
          exact wpStill_nil rfl
        simp only [picked, List.filterMap_cons, List.filterMap_nil, List.getElem?_cons_zero, List.getElem?_cons_succ]
        clear hrem hqw
        have htx := htext_any (nextH ⟨ep, sd, sz, ft⟩ tx.size (L.first + L.many)) w9.drew (by
          have := HSD.out ()
          obtain ⟨-, -, b1, b2, b3, -, -⟩ := HB.out ()
          have := HT.out ()
          refine ⟨?_, ?_, ?_, ?_⟩ <;> simp only [nextH] <;> omega)
        rw [HHV.out ()] at htx
        go_wp2_with fail
        refine htx.mono ?_
        clear htx
        rintro _ w10 ⟨rfl, hB10⟩
        have HB10 := Lib.hid (show Below w9.heap.size w9 w10 from ((Below.refl _ _).drew).trans hB10)
        have HC10 := Lib.hid (HC9.out.below HB10.out)
        clear hB10
        go_wp2_with fail
        refine OnlyNormal.mk ⟨HB10.out, ?_⟩
        apply wpStages_seq
        simp only [picked, List.filterMap_cons, List.filterMap_nil, List.getElem?_cons_zero, List.getElem?_cons_succ]
        go_wp2_with fail
        refine (write_any db Y D2 _ _ w10 HC10.out.disk (by
          rcases flush_cases D1 with ⟨-, -, -, h4, -⟩ | ⟨h1, -⟩
          · rw [HFL.out] at h4
            simp only at h4
            rw [h4]
            decide
          · rw [HFL.out] at h1
            cases h1)).mono ?_
        generalize hwr : D2.write (q : Int) (headB (nextH ⟨ep, sd, sz, ft⟩ tx.size (L.first + L.many))) = dm2
        have HWR := Lib.hid hwr
        clear hwr
        obtain ⟨m2, D3⟩ := dm2
        rintro _ w11 ⟨rfl, Y1, hD11, hF11, hY11⟩
        have HC11 := Lib.hid (HC10.out.step hF11 hY11 hD11)
        clear hD11 hF11 hY11
        obtain ⟨k0, kS, k2, -, -, -⟩ := KEEP.out w11 _ HC11.out.frame (HZ.out ())
        have kA := HC11.out.frame.heap HA17.out (HA1Z.out ())
        have HRC11 := Lib.hid kA
        have r1 := cell_of kA 0
        have z1 := frozen_of kA
        have c0 := cell_of k0 0
        obtain ⟨s0, s1, s2, s3, s4, s5, s6⟩ := kS.cells
        simp only [List.getElem?_toArray, List.getElem?_cons_zero] at r1 c0
        clear k0 kS k2 kA
        by_cases hm2 : m2 = 0
        · obtain rfl := hm2
          go_wp2_with fail
          refine OnlyNormal.mk (wpStages_nil ?_)
          go_wp2_with fail
          refine (flush_any db Y1 D3 w11 HC11.out.disk).mono ?_
          clear c0 s0 s1 s2 s3 s4 s5 s6 r1 z1
          generalize hf2 : D3.flush = dm3
          have HF2 := Lib.hid hf2
          clear hf2
          obtain ⟨m3, D4⟩ := dm3
          rintro _ w12 ⟨rfl, hD12, hF12⟩
          have HC12 := Lib.hid (HC11.out.step hF12 (Fresh.refl _ _) hD12)
          clear hD12 hF12
          have HCKD := Lib.hid (ckD_all (h := nextH ⟨ep, sd, sz, ft⟩ tx.size (L.first + L.many)) (show ckWrites (2 + (1 - sd) * 44) tx D 0 _ = _ by rw [← HAT.out ()]; exact HDM.out) HFL.out (show D2.write (((ep + 1) % 2 : Nat) : Int) _ = _ by rw [← HQ.out ()]; exact HWR.out) HF2.out)
          obtain ⟨k0, kS, k2, -, -, -⟩ := KEEP.out w12 _ HC12.out.frame (HZ.out ())
          have kA := HC12.out.frame.heap HA17.out (HA1Z.out ())
          have HRC12 := Lib.hid kA
          have r1 := cell_of kA 0
          have z1 := frozen_of kA
          have c0 := cell_of k0 0
          obtain ⟨s0, s1, s2, s3, s4, s5, s6⟩ := kS.cells
          simp only [List.getElem?_toArray, List.getElem?_cons_zero] at r1 c0
          clear k0 kS k2 kA
          by_cases hm3 : m3 = 0
          · obtain rfl := hm3
            go_wp2_with fail
            clear r1 z1 c0 s0 s1 s2 s3 s4 s5 s6
            have HKP := Lib.hid (fun (w5 : World) (hT : Below w12.heap.size w12 w5) => KEEP.out w5 _ (HC12.out.below hT).frame (HZ.out ()))
            refine wp_region_plan (fun w5 => Below w12.heap.size w12 w5) 113 [([0, 4, 10, 1, 5, 11, 2, 6, 3, 7], [8], true), ([9], [12], true), ([13, 14, 15, 16, 17, 18, 19], [], false)] (by kernel_rfl) (by kernel_rfl) ?_
            apply wpStages_keep
            case hT => exact (Below.refl _ _).drew
            case hn => exact Nat.le_refl _
            case hq =>
              intro w5 hT
              obtain ⟨k0, kS, k2, -, -, -⟩ := HKP.out w5 hT
              have c0 := cell_of k0 0
              obtain ⟨s0, s1, s2, s3, s4, s5, s6⟩ := kS.cells
              have c5 := cell_of k2 3
              simp only [List.getElem?_toArray, List.getElem?_cons_zero, List.getElem?_cons_succ] at c0 c5
              clear k0 kS k2
              simp only [picked, List.filterMap_cons, List.filterMap_nil, List.getElem?_cons_zero, List.getElem?_cons_succ]
              repeat still_step
              exact wpStill_nil rfl
            simp only [picked, List.filterMap_cons, List.filterMap_nil, List.getElem?_cons_zero, List.getElem?_cons_succ]
            go_wp2_with fail
            obtain ⟨y1, y2, y3⟩ := ckD_facts D (nextH ⟨ep, sd, sz, ft⟩ tx.size (L.first + L.many)) tx (HB.out ()).2.1
            rw [HCKD.out] at y1 y2 y3
            simp only at y1 y2 y3
            obtain ⟨n, hn⟩ : ∃ n, n = D.now.length := ⟨_, rfl⟩
            rw [← hn] at y1
            have hn104 : 104 ≤ n := by rw [hn]; exact (HB.out ()).1
            have hn130 : n ≤ 130 := by rw [hn]; exact HDD.out.ok.most
            have HY := Lib.hid (fun (_ : Unit) => And.intro y1 (And.intro y2 (And.intro (y3 trivial) (And.intro hn (And.intro hn104 hn130)))))
            refine (sectors_any 107 111 db Y1 D4 w12.drew HC12.out.disk.drew).mono ?_
            rw [y1]
            rintro _ w13 ⟨rfl, rfl⟩
            have hsub : IntKind.i64.wrap ((n : Int) - 90) = ((n - 90 : Nat) : Int) := by
              rw [show (n : Int) - 90 = ((n - 90 : Nat) : Int) by omega]
              exact IntWalk.i64_in _ (by omega)
            clear y1 y2 y3 hn hn104 hn130
            obtain ⟨n90, hn90⟩ : ∃ n90, n90 = n - 90 := ⟨_, rfl⟩
            rw [← hn90] at hsub
            have HN90 := Lib.hid (fun (_ : Unit) => hn90)
            clear hn90
            go_wp2_with fail
            refine OnlyNormal.mk ⟨(Below.refl _ _).drew, ?_⟩
            apply wpStages_keep
            case hT => exact (Below.refl _ _).drew
            case hn => exact Nat.le_refl _
            case hq =>
              intro w5 hT
              simp only [picked, List.filterMap_cons, List.filterMap_nil, List.getElem?_cons_zero, List.getElem?_cons_succ]
              repeat still_step
              exact wpStill_nil rfl
            simp only [picked, List.filterMap_cons, List.filterMap_nil, List.getElem?_cons_zero, List.getElem?_cons_succ]
            clear hsub
            have hop := open_any db Y1 D4 90 n90 (L.first + L.many) w12.drew HC12.out.disk.drew (by have := HY.out (); have := HN90.out (); omega) (by have := HY.out (); have := HN90.out (); omega) (by have := HB.out (); omega) (HY.out ()).2.2.1 (HY.out ()).2.1 (by have := HB.out (); omega)
            rw [show ((L.first + L.many : Nat) : Int) = (L.first : Int) + (L.many : Int) from Int.natCast_add ..] at hop
            go_wp2_with fail
            refine hop.mono ?_
            clear hop
            rintro _ w14 ⟨_, rfl, b, vd, rfl, hb, hlog, -, hB14⟩
            have HB14 := Lib.hid (show Below w12.heap.size w12 w14 from ((Below.refl _ _).drew).trans hB14)
            have HC14 := Lib.hid (HC12.out.below HB14.out)
            have HLOG := Lib.hid hlog
            have HBL := Lib.hid (show w12.heap.size ≤ b from hb)
            clear hB14 hlog hb
            go_wp2_with fail
            refine OnlyNormal.mk ⟨HB14.out, ?_⟩
            apply wpStages_last
            case hT => exact HB14.out
            case hn => exact Nat.le_refl _
            case hq =>
              intro w5 hT
              simp only [picked, List.filterMap_cons, List.filterMap_nil, List.getElem?_cons_zero, List.getElem?_cons_succ]
              repeat still_step
              exact wpStill_nil rfl
            simp only [picked, List.filterMap_nil]
            refine wpList_nil (OnlyNormal.mk ?_)
            obtain ⟨k0, kS, k2, -, -, -⟩ := HKP.out w14 HB14.out
            have kA := HC14.out.frame.heap HA17.out (HA1Z.out ())
            have HRC14 := Lib.hid kA
            have HK0 := Lib.hid k0
            have HKS := Lib.hid kS
            have HK2 := Lib.hid k2
            have hda : DD ≠ w.heap.size + 1 := by have := HC14.out.dlt; have := HA1L.out; have := HSZ7.out; omega
            have HDA := Lib.hid (fun (_ : Unit) => hda)
            clear k0 kS k2 kA hda
            go_wp2_with fail
            refine wp_region_plan (fun w5 => w5.heap[w.heap.size]? = some (.cells #[.pointer (some ⟨sb, 0, none⟩)] 90 (0, 0)) ∧ w5.heap[a2]? = some (.cells #[.int .i64 ((ep : Int) + 1), .int .i64 (1 - (sd : Int)), .int .i64 (tx.size : Int), .int .i64 ((L.first : Int) + (L.many : Int))] 143 (0, 0))) 113
              [([0, 2, 1, 3, 4, 5], [6], true), ([7, 8], [9], false)] (by kernel_rfl) (by kernel_rfl) ?_
            apply wpStages_keep
            case hT => exact ⟨HK0.out, HK2.out⟩
            case hn => exact Nat.le_refl _
            case hq =>
              rintro w5 ⟨k0, k2⟩
              have c0 := cell_of k0 0
              have c2 := cell_of k2 0
              have c3 := cell_of k2 1
              have c4 := cell_of k2 2
              have c5 := cell_of k2 3
              simp only [List.getElem?_toArray, List.getElem?_cons_zero, List.getElem?_cons_succ] at c0 c2 c3 c4 c5
              clear k0 k2
              simp only [picked, List.filterMap_cons, List.filterMap_nil, List.getElem?_cons_zero, List.getElem?_cons_succ]
              repeat still_step
              exact wpStill_nil rfl
            simp only [picked, List.filterMap_cons, List.filterMap_nil, List.getElem?_cons_zero, List.getElem?_cons_succ]
            obtain ⟨s0, s1, s2, s3, s4, s5, s6⟩ := HKS.out.cells
            have z1 := frozen_of HKS.out
            go_wp2_with fail
            clear s0 s1 s2 s3 s4 s5 s6
            have HX15 := Lib.hid (heap_set_same 4 (.int .i64 ((L.first : Int) + (L.many : Int))) (heap_set_same 3 (.int .i64 (tx.size : Int)) (heap_set_same 2 (.int .i64 (1 - (sd : Int))) (heap_set_same 1 (.int .i64 ((ep : Int) + 1)) HKS.out))))
            have HF15 := Lib.hid (((((Frame.refl [sb] w14).set (p := ⟨sb, 1, none⟩) (.inl (by simp)) (.int .i64 ((ep : Int) + 1))).set (p := ⟨sb, 2, none⟩) (.inl (by simp)) (.int .i64 (1 - (sd : Int)))).set (p := ⟨sb, 3, none⟩) (.inl (by simp)) (.int .i64 (tx.size : Int))).set (p := ⟨sb, 4, none⟩) (.inl (by simp)) (.int .i64 ((L.first : Int) + (L.many : Int))))
            generalize ((((w14.setCell ⟨sb, 1, none⟩ (.int .i64 ((ep : Int) + 1))).setCell ⟨sb, 2, none⟩ (.int .i64 (1 - (sd : Int)))).setCell ⟨sb, 3, none⟩ (.int .i64 (tx.size : Int))).setCell ⟨sb, 4, none⟩ (.int .i64 ((L.first : Int) + (L.many : Int)))) = w15 at *
            have hT4 : w15.heap[w.heap.size]? = some (.cells #[.pointer (some ⟨sb, 0, none⟩)] 90 (0, 0)) ∧ w15.heap[a2]? = some (.cells #[.int .i64 ((ep : Int) + 1), .int .i64 (1 - (sd : Int)), .int .i64 (tx.size : Int), .int .i64 ((L.first : Int) + (L.many : Int))] 143 (0, 0)) := by
              have g1 := HSBL.out
              have g2 := HWL.out
              exact ⟨HF15.out.heap HK0.out (by simp; omega), HF15.out.heap HK2.out (by simp; omega)⟩
            refine OnlyNormal.mk ⟨hT4, ?_⟩
            apply wpStages_last
            case hT => exact hT4
            case hn => exact Nat.le_refl _
            case hq =>
              rintro w5 -
              simp only [picked, List.filterMap_cons, List.filterMap_nil, List.getElem?_cons_zero, List.getElem?_cons_succ]
              repeat still_step
              exact wpStill_nil rfl
            simp only [picked, List.filterMap_cons, List.filterMap_nil, List.getElem?_cons_zero, List.getElem?_cons_succ]
            clear hT4
            have x5 := cell_of HX15.out 5
            have y5 := frozen_of HX15.out
            go_wp2_with fail
            clear x5 y5 z1
            refine OnlyNormal.mk ?_
            have HX16 := Lib.hid (heap_set_same 5 (.pointer (some ⟨b, 0, none⟩)) HX15.out)
            have HF16 := Lib.hid (HF15.out.set (p := ⟨sb, 5, none⟩) (.inl (by simp)) (.pointer (some ⟨b, 0, none⟩)))
            generalize w15.setCell ⟨sb, 5, none⟩ (.pointer (some ⟨b, 0, none⟩)) = w16 at *
            have kA := HF16.out.heap HRC14.out (by have := HSBL.out; simp; omega)
            have r1 := cell_of kA 0
            have z1 := frozen_of kA
            simp only [List.getElem?_toArray, List.getElem?_cons_zero] at r1
            have HK16 := Lib.hid kA
            clear kA
            go_wp2_with fail
            have g1 := HA1L.out
            have g2 := HSZ7.out
            have g3 := HC14.out.dlt
            have g4 := HSBL.out
            have g5 := HBL.out
            have g6 := HC12.out.frame.size
            have hdd : w16.heap[DD]? = some (.deferred (some [])) := HF16.out.heap HC14.out.dd (by simp; omega)
            refine ⟨by simp, .inl ⟨_, _, rfl, run_takeDeferred (show (w16.setCell ⟨w.heap.size + 1, 0, none⟩ .nilIface).heap[DD]? = _ from (heap_set_other _ _ _ (HDA.out ())).trans hdd), ?_⟩⟩
            rw [HCKD.out]
            have hend : ((w16.setCell ⟨w.heap.size + 1, 0, none⟩ .nilIface).drew.putObj DD (.deferred none)).cell? ⟨w.heap.size + 1, 0, none⟩ = some (errV 0) :=
              cell_end (show (w16.setCell ⟨w.heap.size + 1, 0, none⟩ .nilIface).drew.heap[w.heap.size + 1]? = _ from heap_set_same 0 _ HK16.out) (HDA.out ())
            refine ⟨_, res58 _ _ (w.heap.size + 1) 0 rfl hend, Ret.of rfl ?_⟩
            have hsto : StoAt w16.drew sb db b (nextH ⟨ep, sd, sz, ft⟩ tx.size (L.first + L.many)) (.slice vo vn vc) := by
              have h := HX16.out
              have h9 := HSD.out ()
              unfold StoAt nextH
              simp only
              rw [show ((ep + 1 : Nat) : Int) = (ep : Int) + 1 by omega, show ((1 - sd : Nat) : Int) = 1 - (sd : Int) by omega, show ((L.first + L.many : Nat) : Int) = (L.first : Int) + (L.many : Int) by omega]
              exact h
            have hn := HN90.out ()
            rw [(HY.out ()).2.2.2.1] at hn
            exact CkT.good (W0 := w16.drew) HC14.out HF16.out.drew hsto HLOG.out HB7.out HXLT.out (fun z hz => (List.mem_cons.1 hz).elim (fun e => .inr (by omega)) .inl) (by omega) (by omega) HSBL.out (HSX.out ()) (fun hm => by have := HC12.out.disk.lt _ hm; omega) (by have := lt_of_heap HC12.out.dd; omega) (by omega) (by rw [hn]; rfl)
          · have e3 : errV m3 = .iface 101 (.int .i64 (m3 : Int)) := by simp [errV, hm3]
            have HM3 := Lib.hid hm3
            have E3 := Lib.hid e3
            clear hm3
            go_wp2_with fail
            have hda : DD ≠ w.heap.size + 1 := by have := HC12.out.dlt; have := HA1L.out; have := HSZ7.out; omega
            refine ⟨by simp, .inl ⟨_, _, rfl, run_takeDeferred ((heap_set_other _ _ _ hda).trans HC12.out.dd), ?_⟩⟩
            rw [HCKD.out]
            rw [← E3.out]
            have g1 := HA1L.out
            have g2 := HSZ7.out
            refine ⟨_, res58 _ _ (w.heap.size + 1) m3 rfl (cell_end (heap_set_same 0 _ HRC12.out) hda), Ret.of rfl ?_⟩
            exact CkT.fail HC12.out (frame_res ..) ((KEEP.out w12 _ HC12.out.frame (HZ.out ())).2.1.set (by have := HSBL.out; omega) _) HB7.out HXLT.out (fun z hz => (List.mem_cons.1 hz).elim (fun e => .inr (by omega)) .inl) (by omega) (by omega) HSBL.out (HSX.out ()) HM3.out
        · have e2 : errV m2 = .iface 101 (.int .i64 (m2 : Int)) := by simp [errV, hm2]
          have HM2 := Lib.hid hm2
          have E2 := Lib.hid e2
          clear hm2
          go_wp2_with fail
          refine OnlyNormal.mk (wpStages_nil ?_)
          go_wp2_with fail
          have hda : DD ≠ w.heap.size + 1 := by have := HC11.out.dlt; have := HA1L.out; have := HSZ7.out; omega
          refine ⟨by simp, .inl ⟨_, _, rfl, run_takeDeferred ((heap_set_other _ _ _ hda).trans HC11.out.dd), ?_⟩⟩
          have hckd := ckD_stop2 (h := nextH ⟨ep, sd, sz, ft⟩ tx.size (L.first + L.many)) (show ckWrites (2 + (1 - sd) * 44) tx D 0 _ = _ by rw [← HAT.out ()]; exact HDM.out) HFL.out (show D2.write (((ep + 1) % 2 : Nat) : Int) _ = _ by rw [← HQ.out ()]; exact HWR.out) HM2.out
          rw [hckd]
          rw [← E2.out]
          have g1 := HA1L.out
          have g2 := HSZ7.out
          refine ⟨_, res58 _ _ (w.heap.size + 1) m2 rfl (cell_end (heap_set_same 0 _ HRC11.out) hda), Ret.of rfl ?_⟩
          exact CkT.fail HC11.out (frame_res ..) ((KEEP.out w11 _ HC11.out.frame (HZ.out ())).2.1.set (by have := HSBL.out; omega) _) HB7.out HXLT.out (fun z hz => (List.mem_cons.1 hz).elim (fun e => .inr (by omega)) .inl) (by omega) (by omega) HSBL.out (HSX.out ()) HM2.out
      · have e0 : errV m1 = .iface 101 (.int .i64 (m1 : Int)) := by simp [errV, hm1]
        have HM1 := Lib.hid hm1
        have E1 := Lib.hid e0
        clear hm1
        go_wp2_with fail
        have hda : DD ≠ w.heap.size + 1 := by have := HC9.out.dlt; have := HA1L.out; have := HSZ7.out; omega
        refine ⟨by simp, .inl ⟨_, _, rfl, run_takeDeferred ((heap_set_other _ _ _ hda).trans HC9.out.dd), ?_⟩⟩
        have hckd := ckD_stop1 (h := nextH ⟨ep, sd, sz, ft⟩ tx.size (L.first + L.many)) (show ckWrites (2 + (1 - sd) * 44) tx D 0 _ = _ by rw [← HAT.out ()]; exact HDM.out) HFL.out HM1.out
        rw [hckd]
        rw [← E1.out]
        have g1 := HA1L.out
        have g2 := HSZ7.out
        refine ⟨_, res58 _ _ (w.heap.size + 1) m1 rfl (cell_end (heap_set_same 0 _ HRC9.out) hda), Ret.of rfl ?_⟩
        exact CkT.fail HC9.out (frame_res ..) ((KEEP.out w9 _ HC9.out.frame (HZ.out ())).2.1.set (by have := HSBL.out; omega) _) HB7.out HXLT.out (fun z hz => (List.mem_cons.1 hz).elim (fun e => .inr (by omega)) .inl) (by omega) (by omega) HSBL.out (HSX.out ()) HM1.out
    case stop =>
      rintro DD c k W hD hk ⟨rfl, h1, ⟨Y, hYD, hYC, hYF⟩, hFr, hAr⟩ hK
      refine wpIn_wide.2 ?_
      have HC := Lib.hid (show CkT w7 X ((w.heap.size + 1) :: w6.heap.size :: X) db DD Y (ckWrites at_ tx D 0 (List.range k)).2 W from
        ⟨hYD, hYF, hFr, hK, fun hm => cells_ne (hYC _ hm) ⟨_, hK, rfl⟩ rfl, hD, fun _ h => List.mem_cons_of_mem _ (List.mem_cons_of_mem _ h)⟩)
      have hst := ckWrites_stop at_ tx (List.range k) (List.range' k (chunks tx.size - k)) D h1
      rw [ck_range _ _ hk] at hst
      generalize hdm : ckWrites at_ tx D 0 (List.range k) = dm at *
      obtain ⟨m, Dm⟩ := dm
      have HM := Lib.hid h1
      have HST := Lib.hid hst
      have HAR := Lib.hid hAr
      have HZ := Lib.hid (fun (_ : Unit) => show ∀ z ∈ (w.heap.size + 1) :: w6.heap.size :: X, z ∈ X ∨ z = w.heap.size + 1 ∨ z = w6.heap.size from fun z hz => by
        simp only [List.mem_cons] at hz
        exact hz.elim (fun h => .inr (.inl h)) (fun h => h.elim (fun h => .inr (.inr h)) .inl))
      clear h1 hYD hYC hYF hFr hAr hK hD hst hdm
      go_wp2_with fail
      have hda : DD ≠ w.heap.size + 1 := by have := HC.out.dlt; have := HA1L.out; have := HSZ7.out; omega
      refine ⟨by simp, .inl ⟨_, _, rfl, run_takeDeferred HC.out.dd, ?_⟩⟩
      have hckd := ckD_stop0 (h := nextH ⟨ep, sd, sz, ft⟩ tx.size (L.first + L.many)) (show ckWrites (2 + (1 - sd) * 44) tx D 0 _ = _ by rw [← HAT.out ()]; exact HST.out) HM.out
      rw [hckd]
      have g1 := HA1L.out
      have g2 := HSZ7.out
      refine ⟨_, res58 _ _ (w.heap.size + 1) m rfl (cell_end HAR.out hda), Ret.of rfl ?_⟩
      exact CkT.fail (a1 := w.heap.size + 1) HC.out (Frame.refl _ _) (KEEP.out W _ HC.out.frame (HZ.out ())).2.1 HB7.out HXLT.out (fun z hz => by
        simp only [List.mem_cons] at hz
        rcases hz with rfl | rfl | h
        · exact .inr (by omega)
        · exact .inr (by omega)
        · exact .inl h) (by omega) (by omega) HSBL.out (HSX.out ()) HM.out
  · go_wp2_with fail
    have HT3 := Lib.hid (show Below w2.heap.size w2 (w2.alloc (.cells #[.int .i64 0, .int .i64 0, .int .i64 0, .int .i64 0] 143)).drew from ((Below.refl _ w2).alloc (Nat.le_refl _) _).drew)
    have HBX := Lib.hid (show (w2.alloc (.cells #[.int .i64 0, .int .i64 0, .int .i64 0, .int .i64 0] 143)).drew.heap[w2.heap.size]? = _ from heap_alloc_new w2 (.cells #[.int .i64 0, .int .i64 0, .int .i64 0, .int .i64 0] 143))
    have HGE := Lib.hid (Nat.le_refl w2.heap.size)
    refine OnlyNormal.mk ⟨HT3.out, ?_⟩
    generalize (w2.alloc (.cells #[.int .i64 0, .int .i64 0, .int .i64 0, .int .i64 0] 143)).drew = w3 at *
    apply wpStages_seqkeep
    simp only [picked, List.filterMap_cons, List.filterMap_nil, List.getElem?_cons_zero, List.getElem?_cons_succ]
    go_wp2_with fail
    refine (next_any lb db L _ (HUP.out _ HT3.out).2.2 (HB.out ()).2.2.1 (by have := (HB.out ()).2.2.2.1; omega)).mono ?_
    rintro _ w4 ⟨rfl, nq, rfl⟩
    have HT4 := Lib.hid (show Below w2.heap.size w2 (w3.drewN nq) from below_drewN HT3.out nq)
    have HBX4 := Lib.hid (show (w3.drewN nq).heap[w2.heap.size]? = _ from HBX.out)
    generalize w3.drewN nq = w4 at *
    go_wp2_with fail
    refine OnlyNormal.mk ⟨HT4.out, ?_⟩
    apply wpStages_last
    case hT => exact HT4.out
    case hn => exact Nat.le_refl _
    case hq =>
      intro w5 hT
      simp only [picked, List.filterMap_cons, List.filterMap_nil, List.getElem?_cons_zero, List.getElem?_cons_succ]
      repeat still_step
      exact wpStill_nil rfl
    simp only [picked, List.filterMap_cons, List.filterMap_nil, List.getElem?_cons_zero, List.getElem?_cons_succ]
    have k0 := cell_of HBX4.out 0
    have k1 := cell_of HBX4.out 1
    have k2 := cell_of HBX4.out 2
    have k3 := cell_of HBX4.out 3
    have z0 := frozen_of HBX4.out
    simp only [List.getElem?_toArray, List.getElem?_cons_zero, List.getElem?_cons_succ] at k0 k1 k2 k3
    go_wp2_with fail
    refine OnlyNormal.mk ?_
    clear k0 k1 k2 k3 z0
    have HA2 := Lib.hid (set4 HBX4.out (.int .i64 ((ep : Int) + 1)) (.int .i64 (1 - (sd : Int))) (.int .i64 (tx.size : Int)) (.int .i64 ((L.first : Int) + (L.many : Int))))
    have HT6 := Lib.hid (below4 HT4.out (Nat.le_refl _) (.int .i64 ((ep : Int) + 1)) (.int .i64 (1 - (sd : Int))) (.int .i64 (tx.size : Int)) (.int .i64 ((L.first : Int) + (L.many : Int))))
    generalize hw6 : (((w4.setCell ⟨w2.heap.size, 0, none⟩ (.int .i64 ((ep : Int) + 1))).setCell ⟨w2.heap.size, 1, none⟩ (.int .i64 (1 - (sd : Int)))).setCell ⟨w2.heap.size, 2, none⟩ (.int .i64 (tx.size : Int))).setCell ⟨w2.heap.size, 3, none⟩ (.int .i64 ((L.first : Int) + (L.many : Int))) = w6 at *
    clear hw6
    obtain ⟨a2, ha2⟩ : ∃ a2, a2 = w2.heap.size := ⟨_, rfl⟩
    rw [← ha2] at HA2 HGE ⊢
    have HGE := Lib.hid (show w2.heap.size ≤ a2 by omega)
    clear ha2
    have HB6 := Lib.hid (HB2.out.trans (HT6.out.mono HB2.out.size))
    have HA06 := Lib.hid ((HT6.out.block _ (lt_of_heap HA02.out)).trans HA02.out)
    have HA16 := Lib.hid ((HT6.out.block _ (lt_of_heap HA12.out)).trans HA12.out)
    clear HT0
    have hconv := Lib.run_convert_string_bytes (P := Try.prog) (w6.alloc (.cells #[.int .i64 0] 3)) 9 129 5 tx Try.underlying9 Try.underlying129 Try.underlying5
    go_wp2_with fail
    refine (chunkMake_any _ _ _ _).mono ?_
    clear hconv
    rintro _ w7 ⟨rfl, hw7⟩
    have HBW0 := Lib.hid (fun (k : Nat) (hk : k < w6.heap.size + 1) => Lib.bytesWorld_at_old (w6.alloc (.cells #[.int .i64 0] 3)) 5 tx k (by rw [size_alloc]; exact hk))
    have HBWN := Lib.hid (Lib.bytesWorld_at_new (w6.alloc (.cells #[.int .i64 0] 3)) 5 tx)
    have HSZB := Lib.hid (show (Lib.bytesWorld (w6.alloc (.cells #[.int .i64 0] 3)) 5 tx).heap.size = w6.heap.size + 2 by simp [Lib.bytesWorld, World.freeze])
    have hcap := grownCap_ge (w6.alloc (.cells #[.int .i64 0] 3)) tx.size 0 5
    generalize grownCap (w6.alloc (.cells #[.int .i64 0] 3)) tx.size 0 5 = cap7 at *
    rw [HSZB.out]
    have hbs : w7.heap[w6.heap.size + 2]? = some (.cells #[.slice (some ⟨w6.heap.size + 1, 0, none⟩) tx.size cap7] 129 (0, 0)) := by
      rw [hw7, heap_alloc_old _ _ (by rw [size_alloc, HSZB.out]; omega), ← HSZB.out, heap_alloc_new]
    have hbn : w7.heap[w6.heap.size + 3]? = some (.cells #[.int .i64 140] 3 (0, 0)) := by
      have h := heap_alloc_new ((Lib.bytesWorld (w6.alloc (.cells #[.int .i64 0] 3)) 5 tx).alloc (.cells #[.slice (some ⟨w6.heap.size + 1, 0, none⟩) tx.size cap7] 129)) (.cells #[.int .i64 140] 3)
      rw [size_alloc, HSZB.out] at h
      rw [hw7]
      exact h
    have hold : ∀ k, k < w6.heap.size + 2 → w7.heap[k]? = (Lib.bytesWorld (w6.alloc (.cells #[.int .i64 0] 3)) 5 tx).heap[k]? := fun k hk => by
      rw [hw7, heap_alloc_old _ _ (by rw [size_alloc, HSZB.out]; omega), heap_alloc_old _ _ (by rw [HSZB.out]; exact hk)]
    have hF7 : ∀ k, k < w6.heap.size → w7.heap[k]? = w6.heap[k]? := fun k hk => by
      rw [hold k (by omega), HBW0.out k (by omega), heap_alloc_old _ _ hk]
    have hA3 : w7.heap[w6.heap.size]? = some (.cells #[.int .i64 0] 3 (0, 0)) := by
      rw [hold _ (by omega), HBW0.out _ (by omega), heap_alloc_new]
    have hby : ∀ j, j < tx.size → w7.cell? ⟨w6.heap.size + 1, j, none⟩ = some (.int .u8 ((tx.data.toList.getD j 0).toNat : Int)) := fun j hj => by
      have h := Lib.bytesWorld_cell (w6.alloc (.cells #[.int .i64 0] 3)) 5 tx j hj
      rw [size_alloc] at h
      have h2 := hold (w6.heap.size + 1) (by omega)
      rw [World.cell?_of_block (a := ⟨w6.heap.size + 1, j, none⟩) h2]
      exact h
    have hsz7 : w7.heap.size = w6.heap.size + 4 := by rw [hw7, size_alloc, size_alloc, HSZB.out]
    have HSZ7 := Lib.hid hsz7
    have HB7 := Lib.hid (show Below w.heap.size w w7 by
      have g1 := HB6.out.size
      have b1 : Below w.heap.size w6 (w6.alloc (.cells #[.int .i64 0] 3)) := (Below.refl w.heap.size w6).alloc g1 _
      have b2 : Below w.heap.size (w6.alloc (.cells #[.int .i64 0] 3)) (Lib.bytesWorld (w6.alloc (.cells #[.int .i64 0] 3)) 5 tx) := ⟨rfl, rfl, rfl, by rw [Lib.bytesWorld_size]; omega, fun k hk => Lib.bytesWorld_at_old _ 5 tx k (by rw [size_alloc]; omega)⟩
      rw [hw7]
      exact HB6.out.trans (((b1.trans b2).alloc (by rw [HSZB.out]; omega) _).alloc (by rw [size_alloc, HSZB.out]; omega) _))
    have HA37 := Lib.hid hA3
    have HBY := Lib.hid hby
    have HF7 := Lib.hid hF7
    have HBS := Lib.hid hbs
    have HBN := Lib.hid hbn
    have HCAP := Lib.hid hcap
    clear hbs hbn hold hF7 hA3 hby hsz7 hcap hw7 HBW0 HBWN HSZB
    have HDS7 := Lib.hid (show DiskAt w7 107 111 db X D from HDD.out.frame (Frame.of_below [] HB7.out) (by simp))
    have HXLT := Lib.hid (show ∀ k ∈ X, k < w.heap.size from HDD.out.lt)
    have HSX := Lib.hid (fun (_ : Unit) => hsX)
    have HSBL := Lib.hid (show sb < w.heap.size from lt_of_heap HS.out)
    have HA1L := Lib.hid (show w.heap.size + 1 < w6.heap.size from lt_of_heap HA16.out)
    have HA2L := Lib.hid (show a2 < w6.heap.size from lt_of_heap HA2.out)
    have HWL := Lib.hid (show w.heap.size ≤ a2 from Nat.le_trans HB2.out.size HGE.out)
    have HA2N := Lib.hid (show a2 ≠ w.heap.size + 1 by have := lt_of_heap HA12.out; have := HGE.out; omega)
    have HA07 := Lib.hid ((HF7.out _ (by have := HA1L.out; omega)).trans HA06.out)
    have HA17 := Lib.hid ((HF7.out _ HA1L.out).trans HA16.out)
    have HA27 := Lib.hid ((HF7.out _ HA2L.out).trans HA2.out)
    have HST7 := Lib.hid (show StoAt w7 sb db lb ⟨ep, sd, sz, ft⟩ (.slice vo vn vc) from (HB7.out.block _ HSBL.out).trans HS.out)
    clear hsX
    obtain ⟨m44, hm44⟩ : ∃ m44, m44 = (1 - sd) * 44 := ⟨_, rfl⟩
    obtain ⟨at_, hat⟩ : ∃ at_, at_ = 2 + m44 := ⟨_, rfl⟩
    have HAT := Lib.hid (fun (_ : Unit) => show at_ = 2 + (1 - sd) * 44 by omega)
    have HSQ := Lib.hid (fun (_ : Unit) => show at_ ≤ 46 ∧ IntKind.i64.wrap ((1 - (sd : Int)) * 44) = (m44 : Int) ∧ IntKind.i64.wrap (2 + (m44 : Int)) = (at_ : Int) by
      have := HSD.out ()
      refine ⟨by omega, ?_, ?_⟩
      · rw [show (1 - (sd : Int)) * 44 = (m44 : Int) by omega]
        exact IntWalk.i64_in _ (by omega)
      · rw [show (2 + (m44 : Int)) = (at_ : Int) by omega]
        exact IntWalk.i64_in _ (by omega))
    clear hm44 hat
    have HI0 := Lib.hid (show CkI w7 X at_ tx D db w6.heap.size [] w7 by
      obtain ⟨Y7, hY1, hY2, hY3⟩ := HDS7.out.tight
      exact ⟨rfl, ⟨Y7, hY1, hY2, fun k hk => .inl (hY3 k hk)⟩, Frame.refl _ _, HA37.out⟩)
    have KEEP := Lib.hid (fun (W : World) (Z : List Nat) (hF : Frame Z w7 W) (hZ : ∀ z ∈ Z, z ∈ X ∨ z = w.heap.size + 1 ∨ z = w6.heap.size) =>
      show W.heap[w.heap.size]? = _ ∧ StoAt W sb db lb ⟨ep, sd, sz, ft⟩ (.slice vo vn vc) ∧ W.heap[a2]? = _ ∧ W.heap[w6.heap.size + 2]? = _ ∧ W.heap[w6.heap.size + 3]? = _ ∧ (∀ j, j < tx.size → W.cell? ⟨w6.heap.size + 1, j, none⟩ = _) by
        have h1 := HA1L.out
        have h2 := HA2L.out
        have h3 := HSBL.out
        have h4 := HWL.out
        have h5 := HA2N.out
        have hn : ∀ k, k ∉ X → k ≠ w.heap.size + 1 → k ≠ w6.heap.size → k ∉ Z := fun k a b c hk => by
          rcases hZ k hk with q | q | q
          · exact a q
          · exact b q
          · exact c q
        have hx : ∀ k, w.heap.size ≤ k → k ∉ X := fun k hk hm => by
          have := HXLT.out k hm
          omega
        refine ⟨hF.heap HA07.out (hn _ (hx _ (by omega)) (by omega) (by omega)), hF.heap HST7.out (hn _ (HSX.out ()) (by omega) (by omega)), hF.heap HA27.out (hn _ (hx _ (by omega)) (by omega) (by omega)),
          hF.heap HBS.out (hn _ (hx _ (by omega)) (by omega) (by omega)), hF.heap HBN.out (hn _ (hx _ (by omega)) (by omega) (by omega)), fun j hj => hF.cell (HBY.out j hj) (hn _ (hx _ (by show w.heap.size ≤ w6.heap.size + 1; omega)) (by show w6.heap.size + 1 ≠ w.heap.size + 1; omega) (by show w6.heap.size + 1 ≠ w6.heap.size; omega))⟩)
    go_wp2_with fail
    refine (wpIn_wide (n := 3)).1 ?_
    refine chunkLoop 39 6 (w6.heap.size + 2) (w6.heap.size + 3) (w6.heap.size + 1) tx.size cap7 ?hg HCAP.out (by have := HT.out (); omega) HBS.out HBN.out (CkI w7 X at_ tx D db w6.heap.size) (CkX w7 X at_ tx D db (w.heap.size + 1) w6.heap.size) (CkI.own w7 X at_ tx D db w6.heap.size) (CkX.own w7 X at_ tx D db (w.heap.size + 1) w6.heap.size) HI0.out ?assign ?body ?done ?stop
    case hg => rfl
    case assign =>
      intro l x W K hK
      gi_wp2
      exact hK
    case body =>
      intro l pre x W hi hlen
      obtain ⟨h1, ⟨Y, hYD, hYC, hYF⟩, hFr, hAi⟩ := hi
      obtain ⟨k0, kS, k2, kbs, kbn, kby⟩ := KEEP.out W _ hFr (fun z hz => (List.mem_cons.1 hz).elim (fun e => .inr (.inr e)) (fun e => .inl e))
      have hA1 := hFr.heap HA17.out (fun hm => (List.mem_cons.1 hm).elim (fun e => by have := HA1L.out; omega) (fun e => by have := HXLT.out _ e; omega))
      have c1 := cell_of k0 0
      obtain ⟨s0, s1, s2, s3, s4, s5, s6⟩ := kS.cells
      have c2 := cell_of k2 1
      have c3 := cell_of hAi 0
      simp only [List.getElem?_toArray, List.getElem?_cons_zero, List.getElem?_cons_succ] at c1 c2 c3
      have hconv := chunk_conv W.drew (w6.heap.size + 1) tx x (fun j hj => by rw [World.cell?_drew]; exact kby j hj)
      have hwl := (ckWrites_len at_ tx pre 0 D).2
      have hch : pre.length < 44 := by
        have := HT.out ()
        unfold chunks at hlen
        omega
      obtain ⟨q0, q1, q2⟩ := HSQ.out ()
      obtain ⟨p, hp⟩ : ∃ p, p = at_ + pre.length := ⟨_, rfl⟩
      have q3 : IntKind.i64.wrap ((at_ : Int) + (pre.length : Int)) = (p : Int) := by
        rw [show (at_ : Int) + (pre.length : Int) = (p : Int) by omega]
        exact IntWalk.i64_in _ (by omega)
      have q4 : IntKind.i64.wrap ((pre.length : Int) + 1) = (pre.length : Int) + 1 := IntWalk.i64_in _ (by omega)
      have HI := Lib.hid (show CkI w7 X at_ tx D db w6.heap.size pre W from ⟨h1, ⟨Y, hYD, hYC, hYF⟩, hFr, hAi⟩)
      have HWT := Lib.hid (show (ckWrites at_ tx D 0 pre).2.wait.length < 10000 by have := (HB.out ()).2.2.2.2.2.1; omega)
      have HP := Lib.hid (fun (_ : Unit) => hp)
      have HYD := Lib.hid hYD
      have HYC := Lib.hid hYC
      have HYF := Lib.hid hYF
      have HFR := Lib.hid hFr
      have HA1 := Lib.hid hA1
      have HAI := Lib.hid hAi
      have HKBS := Lib.hid kbs
      have HKBN := Lib.hid kbn
      have H1 := Lib.hid h1
      clear hwl q0 hch h1 hYD hYC hYF hFr hAi hA1 k0 kS k2 kbs kbn kby hp hlen
      gi_wp2
      refine wpIn_region_plan (fun w2 => w2 = W.drew) 113 [([0, 4, 8, 10, 1, 5, 11, 2, 6, 3, 7, 9], [12, 13], false)] (by kernel_rfl) (by kernel_rfl) (by kernel_rfl) ?_
      apply wpStages_last
      case hT => rfl
      case hn => exact Nat.le_refl _
      case hq =>
        rintro w2 rfl
        simp only [picked, List.filterMap_cons, List.filterMap_nil, List.getElem?_cons_zero, List.getElem?_cons_succ]
        repeat still_step
        exact wpStill_nil rfl
      simp only [picked, List.filterMap_cons, List.filterMap_nil, List.getElem?_cons_zero, List.getElem?_cons_succ]
      clear q1 q2 q3 hconv s0 s1 s2 s3 s4 s5 s6 c1 c2
      go_wp2_with fail
      refine (write_any db Y _ _ _ W.drew HYD.out.drew HWT.out).mono ?_
      have hsn := ckWrites_snoc at_ tx pre x D H1.out
      rw [← HP.out ()] at hsn
      rw [← hsn]
      generalize hdm : ckWrites at_ tx D 0 (pre ++ [x]) = dm
      have HDM := Lib.hid hdm
      clear hdm hsn
      obtain ⟨m, Dm⟩ := dm
      rintro _ w8 ⟨rfl, Y8, hD8, hF8, hY8⟩
      obtain ⟨Y9, hD9, hC9, hs9⟩ := hD8.tight
      have HD9 := Lib.hid hD9
      have HC9 := Lib.hid hC9
      have HF8 := Lib.hid hF8.drew'
      have HFA := Lib.hid (HFR.out.then' hF8.drew' (fun b hb => (HYF.out b hb).elim (fun e => .inl (List.mem_cons_of_mem _ e)) .inr))
      have HFF := Lib.hid (show Fresh w7 X Y9 from fun k hk => (hY8 k (hs9 k hk)).elim (HYF.out k) (fun h => .inr (Nat.le_trans HFR.out.size h)))
      have hny : ∀ k, k < w7.heap.size → k ∉ X → k ∉ Y := fun k a b hk => (HYF.out k hk).elim b (fun h => by omega)
      have hx : ∀ k, w.heap.size ≤ k → k ∉ X := fun k hk hm => by
        have := HXLT.out k hm
        omega
      have g1 := HA1L.out
      have g2 := HSZ7.out
      have H8I := Lib.hid (HF8.out.heap HAI.out (hny _ (by omega) (hx _ (by omega))))
      have H8A := Lib.hid (HF8.out.heap HA1.out (hny _ (by omega) (hx _ (by omega))))
      have H8S := Lib.hid (HF8.out.block _ (lt_of_heap HKBS.out) (hny _ (by omega) (hx _ (by omega))))
      have H8N := Lib.hid (HF8.out.block _ (lt_of_heap HKBN.out) (hny _ (by omega) (hx _ (by omega))))
      clear hD8 hF8 hY8 hD9 hC9 hs9 hny hx g1 g2
      have c4 := cell_of H8I.out 0
      have z4 := frozen_of H8I.out
      have c5 := cell_of H8A.out 0
      have z5 := frozen_of H8A.out
      simp only [List.getElem?_toArray, List.getElem?_cons_zero] at c4 c5
      by_cases hm : m = 0
      · obtain rfl := hm
        have e0 : errV 0 = .nilIface := rfl
        go_wp2_with fail
        refine OnlyNormal.mk ?_
        gi_wp2
        have g1 := HA1L.out
        have g2 := HSZ7.out
        exact CkI.next HDM.out HAI.out HYC.out HF8.out HFA.out HD9.out HC9.out HFF.out H8I.out (by omega) (fun h => by have := HXLT.out _ h; omega) (by omega) (by omega) H8S.out H8N.out
      · have e0 : errV m = .iface 101 (.int .i64 (m : Int)) := by simp [errV, hm]
        have HM := Lib.hid hm
        have E0 := Lib.hid e0
        clear hm
        go_wp2_with fail
        refine OnlyNormal.mk ?_
        gi_wp2
        have g1 := HA1L.out
        have g2 := HSZ7.out
        have hst := CkX.stop (B := w7.heap.size) HDM.out HM.out HAI.out HA1.out HYC.out HF8.out HFA.out HD9.out HC9.out HFF.out H8A.out (by omega) (fun h => by have := HXLT.out _ h; omega)
        rw [E0.out] at hst
        exact hst
    case done =>
      intro DD W hD hi hK
      obtain ⟨h1, ⟨Y, hYD, hYC, hYF⟩, hFr, hAi⟩ := hi
      have HFR := Lib.hid hFr
      have HYD := Lib.hid hYD
      have HYF := Lib.hid hYF
      have H1 := Lib.hid h1
      have HK := Lib.hid hK
      have HDL := Lib.hid hD
      obtain ⟨k0, kS, k2, -, -, -⟩ := KEEP.out W _ hFr (fun z hz => (List.mem_cons.1 hz).elim (fun e => .inr (.inr e)) (fun e => .inl e))
      have hA1 := hFr.heap HA17.out (fun hm => (List.mem_cons.1 hm).elim (fun e => by have := HA1L.out; omega) (fun e => by have := HXLT.out _ e; omega))
      have HC := Lib.hid (show CkT w7 X (w6.heap.size :: X) db DD Y (ckWrites at_ tx D 0 (List.range (chunks tx.size))).2 W from
        ⟨hYD, hYF, hFr, hK, fun hm => cells_ne (hYC _ hm) ⟨_, hK, rfl⟩ rfl, hD, fun _ h => List.mem_cons_of_mem _ h⟩)
      have HWL1 := Lib.hid (ckWrites_len at_ tx (List.range (chunks tx.size)) 0 D)
      generalize hdm : ckWrites at_ tx D 0 (List.range (chunks tx.size)) = dm at *
      obtain ⟨m0, D1⟩ := dm
      simp only at h1
      obtain rfl := h1
      have HDM := Lib.hid hdm
      have c0 := cell_of k0 0
      obtain ⟨s0, s1, s2, s3, s4, s5, s6⟩ := kS.cells
      simp only [List.getElem?_toArray, List.getElem?_cons_zero] at c0
      clear hdm hYD hYC hYF hFr hAi hD hK k0 kS k2 hA1 HFR HYD HYF H1 HK HDL
      go_wp2_with fail
      refine (flush_any db Y D1 W HC.out.disk).mono ?_
      clear c0 s0 s1 s2 s3 s4 s5 s6
      generalize hfl : D1.flush = dm1
      have HFL := Lib.hid hfl
      clear hfl
      obtain ⟨m1, D2⟩ := dm1
      rintro _ w9 ⟨rfl, hD9, hF9⟩
      have HC9 := Lib.hid (HC.out.step hF9 (Fresh.refl _ _) hD9)
      clear hD9 hF9 
      have HZ := Lib.hid (fun (_ : Unit) => show ∀ z ∈ w6.heap.size :: X, z ∈ X ∨ z = w.heap.size + 1 ∨ z = w6.heap.size from fun z hz => (List.mem_cons.1 hz).elim (fun e => .inr (.inr e)) .inl)
      have HA1Z := Lib.hid (fun (_ : Unit) => show w.heap.size + 1 ∉ w6.heap.size :: X from fun hm => (List.mem_cons.1 hm).elim (fun e => by have := HA1L.out; omega) (fun e => by have := HXLT.out _ e; omega))
      obtain ⟨k0, kS, k2, -, -, -⟩ := KEEP.out w9 _ HC9.out.frame (HZ.out ())
      have kA := HC9.out.frame.heap HA17.out (HA1Z.out ())
      have r1 := cell_of kA 0
      have z1 := frozen_of kA
      have HRC9 := Lib.hid kA
      have c0 := cell_of k0 0
      obtain ⟨s0, s1, s2, s3, s4, s5, s6⟩ := kS.cells
      have c2 := cell_of k2 0
      have c3 := cell_of k2 1
      have c4 := cell_of k2 2
      have c5 := cell_of k2 3
      simp only [List.getElem?_toArray, List.getElem?_cons_zero, List.getElem?_cons_succ] at r1 c0 c2 c3 c4 c5
      clear k0 kS k2 kA
      by_cases hm1 : m1 = 0
      · obtain rfl := hm1
        have e0 : errV 0 = .nilIface := rfl
        go_wp2_with fail
        clear c0 c2 c3 c4 c5 s0 s1 s2 s3 s4 s5 s6 r1 z1
        have HHV := Lib.hid (fun (_ : Unit) => show HM.v (nextH ⟨ep, sd, sz, ft⟩ tx.size (L.first + L.many)) = .agg #[.int .i64 ((ep : Int) + 1), .int .i64 (1 - (sd : Int)), .int .i64 (tx.size : Int), .int .i64 ((L.first : Int) + (L.many : Int))] by
          have := HSD.out ()
          simp only [HM.v, nextH]
          rw [show ((1 - sd : Nat) : Int) = 1 - (sd : Int) by omega, Int.natCast_add, Int.natCast_add]
          rfl)
        obtain ⟨q, hq⟩ : ∃ q, q = (ep + 1) % 2 := ⟨_, rfl⟩
        have hrem : Int.tmod ((ep : Int) + 1) 2 = (q : Int) := by
          rw [show (ep : Int) + 1 = ((ep + 1 : Nat) : Int) by omega, show (2 : Int) = ((2 : Nat) : Int) from rfl, ← Int.ofNat_tmod, ← hq]
        have HQ := Lib.hid (fun (_ : Unit) => hq)
        have hqw : IntKind.i64.wrap (q : Int) = (q : Int) := IntWalk.i64_in _ (by omega)
        clear hq
        refine wp_region_plan (fun w5 => Below w9.heap.size w9 w5) 113 [([0, 4, 7, 1, 5, 2, 6, 3], [8], true), ([], [9, 10], false)] (by kernel_rfl) (by kernel_rfl) ?_
        apply wpStages_keep
        case hT => exact (Below.refl _ _).drew
        case hn => exact Nat.le_refl _
        case hq =>
          intro w5 hT
          obtain ⟨k0, kS, k2, -, -, -⟩ := KEEP.out w5 _ (HC9.out.below hT).frame (HZ.out ())
          have c0 := cell_of k0 0
          obtain ⟨s0, s1, s2, s3, s4, s5, s6⟩ := kS.cells
          have c2 := cell_of k2 0
          have c3 := cell_of k2 1
          have c4 := cell_of k2 2
          have c5 := cell_of k2 3
          simp only [List.getElem?_toArray, List.getElem?_cons_zero, List.getElem?_cons_succ] at c0 c2 c3 c4 c5
          clear k0 kS k2
          simp only [picked, List.filterMap_cons, List.filterMap_nil, List.getElem?_cons_zero, List.getElem?_cons_succ]
          repeat still_step
          exact wpStill_nil rfl
        simp only [picked, List.filterMap_cons, List.filterMap_nil, List.getElem?_cons_zero, List.getElem?_cons_succ]
        clear hrem hqw
        have htx := htext_any (nextH ⟨ep, sd, sz, ft⟩ tx.size (L.first + L.many)) w9.drew (by
          have := HSD.out ()
          obtain ⟨-, -, b1, b2, b3, -, -⟩ := HB.out ()
          have := HT.out ()
          refine ⟨?_, ?_, ?_, ?_⟩ <;> simp only [nextH] <;> omega)
        rw [HHV.out ()] at htx
        go_wp2_with fail
        refine htx.mono ?_
        clear htx
        rintro _ w10 ⟨rfl, hB10⟩
        have HB10 := Lib.hid (show Below w9.heap.size w9 w10 from ((Below.refl _ _).drew).trans hB10)
        have HC10 := Lib.hid (HC9.out.below HB10.out)
        clear hB10
        go_wp2_with fail
        refine OnlyNormal.mk ⟨HB10.out, ?_⟩
        apply wpStages_seq
        simp only [picked, List.filterMap_cons, List.filterMap_nil, List.getElem?_cons_zero, List.getElem?_cons_succ]
        go_wp2_with fail
        refine (write_any db Y D2 _ _ w10 HC10.out.disk (by
          rcases flush_cases D1 with ⟨-, -, -, h4, -⟩ | ⟨h1, -⟩
          · rw [HFL.out] at h4
            simp only at h4
            rw [h4]
            decide
          · rw [HFL.out] at h1
            cases h1)).mono ?_
        generalize hwr : D2.write (q : Int) (headB (nextH ⟨ep, sd, sz, ft⟩ tx.size (L.first + L.many))) = dm2
        have HWR := Lib.hid hwr
        clear hwr
        obtain ⟨m2, D3⟩ := dm2
        rintro _ w11 ⟨rfl, Y1, hD11, hF11, hY11⟩
        have HC11 := Lib.hid (HC10.out.step hF11 hY11 hD11)
        clear hD11 hF11 hY11
        obtain ⟨k0, kS, k2, -, -, -⟩ := KEEP.out w11 _ HC11.out.frame (HZ.out ())
        have kA := HC11.out.frame.heap HA17.out (HA1Z.out ())
        have HRC11 := Lib.hid kA
        have r1 := cell_of kA 0
        have z1 := frozen_of kA
        have c0 := cell_of k0 0
        obtain ⟨s0, s1, s2, s3, s4, s5, s6⟩ := kS.cells
        simp only [List.getElem?_toArray, List.getElem?_cons_zero] at r1 c0
        clear k0 kS k2 kA
        by_cases hm2 : m2 = 0
        · obtain rfl := hm2
          go_wp2_with fail
          refine OnlyNormal.mk (wpStages_nil ?_)
          go_wp2_with fail
          refine (flush_any db Y1 D3 w11 HC11.out.disk).mono ?_
          clear c0 s0 s1 s2 s3 s4 s5 s6 r1 z1
          generalize hf2 : D3.flush = dm3
          have HF2 := Lib.hid hf2
          clear hf2
          obtain ⟨m3, D4⟩ := dm3
          rintro _ w12 ⟨rfl, hD12, hF12⟩
          have HC12 := Lib.hid (HC11.out.step hF12 (Fresh.refl _ _) hD12)
          clear hD12 hF12
          have HCKD := Lib.hid (ckD_all (h := nextH ⟨ep, sd, sz, ft⟩ tx.size (L.first + L.many)) (show ckWrites (2 + (1 - sd) * 44) tx D 0 _ = _ by rw [← HAT.out ()]; exact HDM.out) HFL.out (show D2.write (((ep + 1) % 2 : Nat) : Int) _ = _ by rw [← HQ.out ()]; exact HWR.out) HF2.out)
          obtain ⟨k0, kS, k2, -, -, -⟩ := KEEP.out w12 _ HC12.out.frame (HZ.out ())
          have kA := HC12.out.frame.heap HA17.out (HA1Z.out ())
          have HRC12 := Lib.hid kA
          have r1 := cell_of kA 0
          have z1 := frozen_of kA
          have c0 := cell_of k0 0
          obtain ⟨s0, s1, s2, s3, s4, s5, s6⟩ := kS.cells
          simp only [List.getElem?_toArray, List.getElem?_cons_zero] at r1 c0
          clear k0 kS k2 kA
          by_cases hm3 : m3 = 0
          · obtain rfl := hm3
            go_wp2_with fail
            clear r1 z1 c0 s0 s1 s2 s3 s4 s5 s6
            have HKP := Lib.hid (fun (w5 : World) (hT : Below w12.heap.size w12 w5) => KEEP.out w5 _ (HC12.out.below hT).frame (HZ.out ()))
            refine wp_region_plan (fun w5 => Below w12.heap.size w12 w5) 113 [([0, 4, 10, 1, 5, 11, 2, 6, 3, 7], [8], true), ([9], [12], true), ([13, 14, 15, 16, 17, 18, 19], [], false)] (by kernel_rfl) (by kernel_rfl) ?_
            apply wpStages_keep
            case hT => exact (Below.refl _ _).drew
            case hn => exact Nat.le_refl _
            case hq =>
              intro w5 hT
              obtain ⟨k0, kS, k2, -, -, -⟩ := HKP.out w5 hT
              have c0 := cell_of k0 0
              obtain ⟨s0, s1, s2, s3, s4, s5, s6⟩ := kS.cells
              have c5 := cell_of k2 3
              simp only [List.getElem?_toArray, List.getElem?_cons_zero, List.getElem?_cons_succ] at c0 c5
              clear k0 kS k2
              simp only [picked, List.filterMap_cons, List.filterMap_nil, List.getElem?_cons_zero, List.getElem?_cons_succ]
              repeat still_step
              exact wpStill_nil rfl
            simp only [picked, List.filterMap_cons, List.filterMap_nil, List.getElem?_cons_zero, List.getElem?_cons_succ]
            go_wp2_with fail
            obtain ⟨y1, y2, y3⟩ := ckD_facts D (nextH ⟨ep, sd, sz, ft⟩ tx.size (L.first + L.many)) tx (HB.out ()).2.1
            rw [HCKD.out] at y1 y2 y3
            simp only at y1 y2 y3
            obtain ⟨n, hn⟩ : ∃ n, n = D.now.length := ⟨_, rfl⟩
            rw [← hn] at y1
            have hn104 : 104 ≤ n := by rw [hn]; exact (HB.out ()).1
            have hn130 : n ≤ 130 := by rw [hn]; exact HDD.out.ok.most
            have HY := Lib.hid (fun (_ : Unit) => And.intro y1 (And.intro y2 (And.intro (y3 trivial) (And.intro hn (And.intro hn104 hn130)))))
            refine (sectors_any 107 111 db Y1 D4 w12.drew HC12.out.disk.drew).mono ?_
            rw [y1]
            rintro _ w13 ⟨rfl, rfl⟩
            have hsub : IntKind.i64.wrap ((n : Int) - 90) = ((n - 90 : Nat) : Int) := by
              rw [show (n : Int) - 90 = ((n - 90 : Nat) : Int) by omega]
              exact IntWalk.i64_in _ (by omega)
            clear y1 y2 y3 hn hn104 hn130
            obtain ⟨n90, hn90⟩ : ∃ n90, n90 = n - 90 := ⟨_, rfl⟩
            rw [← hn90] at hsub
            have HN90 := Lib.hid (fun (_ : Unit) => hn90)
            clear hn90
            go_wp2_with fail
            refine OnlyNormal.mk ⟨(Below.refl _ _).drew, ?_⟩
            apply wpStages_keep
            case hT => exact (Below.refl _ _).drew
            case hn => exact Nat.le_refl _
            case hq =>
              intro w5 hT
              simp only [picked, List.filterMap_cons, List.filterMap_nil, List.getElem?_cons_zero, List.getElem?_cons_succ]
              repeat still_step
              exact wpStill_nil rfl
            simp only [picked, List.filterMap_cons, List.filterMap_nil, List.getElem?_cons_zero, List.getElem?_cons_succ]
            clear hsub
            have hop := open_any db Y1 D4 90 n90 (L.first + L.many) w12.drew HC12.out.disk.drew (by have := HY.out (); have := HN90.out (); omega) (by have := HY.out (); have := HN90.out (); omega) (by have := HB.out (); omega) (HY.out ()).2.2.1 (HY.out ()).2.1 (by have := HB.out (); omega)
            rw [show ((L.first + L.many : Nat) : Int) = (L.first : Int) + (L.many : Int) from Int.natCast_add ..] at hop
            go_wp2_with fail
            refine hop.mono ?_
            clear hop
            rintro _ w14 ⟨_, rfl, b, vd, rfl, hb, hlog, -, hB14⟩
            have HB14 := Lib.hid (show Below w12.heap.size w12 w14 from ((Below.refl _ _).drew).trans hB14)
            have HC14 := Lib.hid (HC12.out.below HB14.out)
            have HLOG := Lib.hid hlog
            have HBL := Lib.hid (show w12.heap.size ≤ b from hb)
            clear hB14 hlog hb
            go_wp2_with fail
            refine OnlyNormal.mk ⟨HB14.out, ?_⟩
            apply wpStages_last
            case hT => exact HB14.out
            case hn => exact Nat.le_refl _
            case hq =>
              intro w5 hT
              simp only [picked, List.filterMap_cons, List.filterMap_nil, List.getElem?_cons_zero, List.getElem?_cons_succ]
              repeat still_step
              exact wpStill_nil rfl
            simp only [picked, List.filterMap_nil]
            refine wpList_nil (OnlyNormal.mk ?_)
            obtain ⟨k0, kS, k2, -, -, -⟩ := HKP.out w14 HB14.out
            have kA := HC14.out.frame.heap HA17.out (HA1Z.out ())
            have HRC14 := Lib.hid kA
            have HK0 := Lib.hid k0
            have HKS := Lib.hid kS
            have HK2 := Lib.hid k2
            have hda : DD ≠ w.heap.size + 1 := by have := HC14.out.dlt; have := HA1L.out; have := HSZ7.out; omega
            have HDA := Lib.hid (fun (_ : Unit) => hda)
            clear k0 kS k2 kA hda
            go_wp2_with fail
            refine wp_region_plan (fun w5 => w5.heap[w.heap.size]? = some (.cells #[.pointer (some ⟨sb, 0, none⟩)] 90 (0, 0)) ∧ w5.heap[a2]? = some (.cells #[.int .i64 ((ep : Int) + 1), .int .i64 (1 - (sd : Int)), .int .i64 (tx.size : Int), .int .i64 ((L.first : Int) + (L.many : Int))] 143 (0, 0))) 113
              [([0, 2, 1, 3, 4, 5], [6], true), ([7, 8], [9], false)] (by kernel_rfl) (by kernel_rfl) ?_
            apply wpStages_keep
            case hT => exact ⟨HK0.out, HK2.out⟩
            case hn => exact Nat.le_refl _
            case hq =>
              rintro w5 ⟨k0, k2⟩
              have c0 := cell_of k0 0
              have c2 := cell_of k2 0
              have c3 := cell_of k2 1
              have c4 := cell_of k2 2
              have c5 := cell_of k2 3
              simp only [List.getElem?_toArray, List.getElem?_cons_zero, List.getElem?_cons_succ] at c0 c2 c3 c4 c5
              clear k0 k2
              simp only [picked, List.filterMap_cons, List.filterMap_nil, List.getElem?_cons_zero, List.getElem?_cons_succ]
              repeat still_step
              exact wpStill_nil rfl
            simp only [picked, List.filterMap_cons, List.filterMap_nil, List.getElem?_cons_zero, List.getElem?_cons_succ]
            obtain ⟨s0, s1, s2, s3, s4, s5, s6⟩ := HKS.out.cells
            have z1 := frozen_of HKS.out
            go_wp2_with fail
            clear s0 s1 s2 s3 s4 s5 s6
            have HX15 := Lib.hid (heap_set_same 4 (.int .i64 ((L.first : Int) + (L.many : Int))) (heap_set_same 3 (.int .i64 (tx.size : Int)) (heap_set_same 2 (.int .i64 (1 - (sd : Int))) (heap_set_same 1 (.int .i64 ((ep : Int) + 1)) HKS.out))))
            have HF15 := Lib.hid (((((Frame.refl [sb] w14).set (p := ⟨sb, 1, none⟩) (.inl (by simp)) (.int .i64 ((ep : Int) + 1))).set (p := ⟨sb, 2, none⟩) (.inl (by simp)) (.int .i64 (1 - (sd : Int)))).set (p := ⟨sb, 3, none⟩) (.inl (by simp)) (.int .i64 (tx.size : Int))).set (p := ⟨sb, 4, none⟩) (.inl (by simp)) (.int .i64 ((L.first : Int) + (L.many : Int))))
            generalize ((((w14.setCell ⟨sb, 1, none⟩ (.int .i64 ((ep : Int) + 1))).setCell ⟨sb, 2, none⟩ (.int .i64 (1 - (sd : Int)))).setCell ⟨sb, 3, none⟩ (.int .i64 (tx.size : Int))).setCell ⟨sb, 4, none⟩ (.int .i64 ((L.first : Int) + (L.many : Int)))) = w15 at *
            have hT4 : w15.heap[w.heap.size]? = some (.cells #[.pointer (some ⟨sb, 0, none⟩)] 90 (0, 0)) ∧ w15.heap[a2]? = some (.cells #[.int .i64 ((ep : Int) + 1), .int .i64 (1 - (sd : Int)), .int .i64 (tx.size : Int), .int .i64 ((L.first : Int) + (L.many : Int))] 143 (0, 0)) := by
              have g1 := HSBL.out
              have g2 := HWL.out
              exact ⟨HF15.out.heap HK0.out (by simp; omega), HF15.out.heap HK2.out (by simp; omega)⟩
            refine OnlyNormal.mk ⟨hT4, ?_⟩
            apply wpStages_last
            case hT => exact hT4
            case hn => exact Nat.le_refl _
            case hq =>
              rintro w5 -
              simp only [picked, List.filterMap_cons, List.filterMap_nil, List.getElem?_cons_zero, List.getElem?_cons_succ]
              repeat still_step
              exact wpStill_nil rfl
            simp only [picked, List.filterMap_cons, List.filterMap_nil, List.getElem?_cons_zero, List.getElem?_cons_succ]
            clear hT4
            have x5 := cell_of HX15.out 5
            have y5 := frozen_of HX15.out
            go_wp2_with fail
            clear x5 y5 z1
            refine OnlyNormal.mk ?_
            have HX16 := Lib.hid (heap_set_same 5 (.pointer (some ⟨b, 0, none⟩)) HX15.out)
            have HF16 := Lib.hid (HF15.out.set (p := ⟨sb, 5, none⟩) (.inl (by simp)) (.pointer (some ⟨b, 0, none⟩)))
            generalize w15.setCell ⟨sb, 5, none⟩ (.pointer (some ⟨b, 0, none⟩)) = w16 at *
            have kA := HF16.out.heap HRC14.out (by have := HSBL.out; simp; omega)
            have r1 := cell_of kA 0
            have z1 := frozen_of kA
            simp only [List.getElem?_toArray, List.getElem?_cons_zero] at r1
            have HK16 := Lib.hid kA
            clear kA
            go_wp2_with fail
            have g1 := HA1L.out
            have g2 := HSZ7.out
            have g3 := HC14.out.dlt
            have g4 := HSBL.out
            have g5 := HBL.out
            have g6 := HC12.out.frame.size
            have hdd : w16.heap[DD]? = some (.deferred (some [])) := HF16.out.heap HC14.out.dd (by simp; omega)
            refine ⟨by simp, .inl ⟨_, _, rfl, run_takeDeferred (show (w16.setCell ⟨w.heap.size + 1, 0, none⟩ .nilIface).heap[DD]? = _ from (heap_set_other _ _ _ (HDA.out ())).trans hdd), ?_⟩⟩
            rw [HCKD.out]
            have hend : ((w16.setCell ⟨w.heap.size + 1, 0, none⟩ .nilIface).drew.putObj DD (.deferred none)).cell? ⟨w.heap.size + 1, 0, none⟩ = some (errV 0) :=
              cell_end (show (w16.setCell ⟨w.heap.size + 1, 0, none⟩ .nilIface).drew.heap[w.heap.size + 1]? = _ from heap_set_same 0 _ HK16.out) (HDA.out ())
            refine ⟨_, res58 _ _ (w.heap.size + 1) 0 rfl hend, Ret.of rfl ?_⟩
            have hsto : StoAt w16.drew sb db b (nextH ⟨ep, sd, sz, ft⟩ tx.size (L.first + L.many)) (.slice vo vn vc) := by
              have h := HX16.out
              have h9 := HSD.out ()
              unfold StoAt nextH
              simp only
              rw [show ((ep + 1 : Nat) : Int) = (ep : Int) + 1 by omega, show ((1 - sd : Nat) : Int) = 1 - (sd : Int) by omega, show ((L.first + L.many : Nat) : Int) = (L.first : Int) + (L.many : Int) by omega]
              exact h
            have hn := HN90.out ()
            rw [(HY.out ()).2.2.2.1] at hn
            exact CkT.good (W0 := w16.drew) HC14.out HF16.out.drew hsto HLOG.out HB7.out HXLT.out (fun z hz => (List.mem_cons.1 hz).elim (fun e => .inr (by omega)) .inl) (by omega) (by omega) HSBL.out (HSX.out ()) (fun hm => by have := HC12.out.disk.lt _ hm; omega) (by have := lt_of_heap HC12.out.dd; omega) (by omega) (by rw [hn]; rfl)
          · have e3 : errV m3 = .iface 101 (.int .i64 (m3 : Int)) := by simp [errV, hm3]
            have HM3 := Lib.hid hm3
            have E3 := Lib.hid e3
            clear hm3
            go_wp2_with fail
            have hda : DD ≠ w.heap.size + 1 := by have := HC12.out.dlt; have := HA1L.out; have := HSZ7.out; omega
            refine ⟨by simp, .inl ⟨_, _, rfl, run_takeDeferred ((heap_set_other _ _ _ hda).trans HC12.out.dd), ?_⟩⟩
            rw [HCKD.out]
            rw [← E3.out]
            have g1 := HA1L.out
            have g2 := HSZ7.out
            refine ⟨_, res58 _ _ (w.heap.size + 1) m3 rfl (cell_end (heap_set_same 0 _ HRC12.out) hda), Ret.of rfl ?_⟩
            exact CkT.fail HC12.out (frame_res ..) ((KEEP.out w12 _ HC12.out.frame (HZ.out ())).2.1.set (by have := HSBL.out; omega) _) HB7.out HXLT.out (fun z hz => (List.mem_cons.1 hz).elim (fun e => .inr (by omega)) .inl) (by omega) (by omega) HSBL.out (HSX.out ()) HM3.out
        · have e2 : errV m2 = .iface 101 (.int .i64 (m2 : Int)) := by simp [errV, hm2]
          have HM2 := Lib.hid hm2
          have E2 := Lib.hid e2
          clear hm2
          go_wp2_with fail
          refine OnlyNormal.mk (wpStages_nil ?_)
          go_wp2_with fail
          have hda : DD ≠ w.heap.size + 1 := by have := HC11.out.dlt; have := HA1L.out; have := HSZ7.out; omega
          refine ⟨by simp, .inl ⟨_, _, rfl, run_takeDeferred ((heap_set_other _ _ _ hda).trans HC11.out.dd), ?_⟩⟩
          have hckd := ckD_stop2 (h := nextH ⟨ep, sd, sz, ft⟩ tx.size (L.first + L.many)) (show ckWrites (2 + (1 - sd) * 44) tx D 0 _ = _ by rw [← HAT.out ()]; exact HDM.out) HFL.out (show D2.write (((ep + 1) % 2 : Nat) : Int) _ = _ by rw [← HQ.out ()]; exact HWR.out) HM2.out
          rw [hckd]
          rw [← E2.out]
          have g1 := HA1L.out
          have g2 := HSZ7.out
          refine ⟨_, res58 _ _ (w.heap.size + 1) m2 rfl (cell_end (heap_set_same 0 _ HRC11.out) hda), Ret.of rfl ?_⟩
          exact CkT.fail HC11.out (frame_res ..) ((KEEP.out w11 _ HC11.out.frame (HZ.out ())).2.1.set (by have := HSBL.out; omega) _) HB7.out HXLT.out (fun z hz => (List.mem_cons.1 hz).elim (fun e => .inr (by omega)) .inl) (by omega) (by omega) HSBL.out (HSX.out ()) HM2.out
      · have e0 : errV m1 = .iface 101 (.int .i64 (m1 : Int)) := by simp [errV, hm1]
        have HM1 := Lib.hid hm1
        have E1 := Lib.hid e0
        clear hm1
        go_wp2_with fail
        have hda : DD ≠ w.heap.size + 1 := by have := HC9.out.dlt; have := HA1L.out; have := HSZ7.out; omega
        refine ⟨by simp, .inl ⟨_, _, rfl, run_takeDeferred ((heap_set_other _ _ _ hda).trans HC9.out.dd), ?_⟩⟩
        have hckd := ckD_stop1 (h := nextH ⟨ep, sd, sz, ft⟩ tx.size (L.first + L.many)) (show ckWrites (2 + (1 - sd) * 44) tx D 0 _ = _ by rw [← HAT.out ()]; exact HDM.out) HFL.out HM1.out
        rw [hckd]
        rw [← E1.out]
        have g1 := HA1L.out
        have g2 := HSZ7.out
        refine ⟨_, res58 _ _ (w.heap.size + 1) m1 rfl (cell_end (heap_set_same 0 _ HRC9.out) hda), Ret.of rfl ?_⟩
        exact CkT.fail HC9.out (frame_res ..) ((KEEP.out w9 _ HC9.out.frame (HZ.out ())).2.1.set (by have := HSBL.out; omega) _) HB7.out HXLT.out (fun z hz => (List.mem_cons.1 hz).elim (fun e => .inr (by omega)) .inl) (by omega) (by omega) HSBL.out (HSX.out ()) HM1.out
    case stop =>
      rintro DD c k W hD hk ⟨rfl, h1, ⟨Y, hYD, hYC, hYF⟩, hFr, hAr⟩ hK
      refine wpIn_wide.2 ?_
      have HC := Lib.hid (show CkT w7 X ((w.heap.size + 1) :: w6.heap.size :: X) db DD Y (ckWrites at_ tx D 0 (List.range k)).2 W from
        ⟨hYD, hYF, hFr, hK, fun hm => cells_ne (hYC _ hm) ⟨_, hK, rfl⟩ rfl, hD, fun _ h => List.mem_cons_of_mem _ (List.mem_cons_of_mem _ h)⟩)
      have hst := ckWrites_stop at_ tx (List.range k) (List.range' k (chunks tx.size - k)) D h1
      rw [ck_range _ _ hk] at hst
      generalize hdm : ckWrites at_ tx D 0 (List.range k) = dm at *
      obtain ⟨m, Dm⟩ := dm
      have HM := Lib.hid h1
      have HST := Lib.hid hst
      have HAR := Lib.hid hAr
      have HZ := Lib.hid (fun (_ : Unit) => show ∀ z ∈ (w.heap.size + 1) :: w6.heap.size :: X, z ∈ X ∨ z = w.heap.size + 1 ∨ z = w6.heap.size from fun z hz => by
        simp only [List.mem_cons] at hz
        exact hz.elim (fun h => .inr (.inl h)) (fun h => h.elim (fun h => .inr (.inr h)) .inl))
      clear h1 hYD hYC hYF hFr hAr hK hD hst hdm
      go_wp2_with fail
      have hda : DD ≠ w.heap.size + 1 := by have := HC.out.dlt; have := HA1L.out; have := HSZ7.out; omega
      refine ⟨by simp, .inl ⟨_, _, rfl, run_takeDeferred HC.out.dd, ?_⟩⟩
      have hckd := ckD_stop0 (h := nextH ⟨ep, sd, sz, ft⟩ tx.size (L.first + L.many)) (show ckWrites (2 + (1 - sd) * 44) tx D 0 _ = _ by rw [← HAT.out ()]; exact HST.out) HM.out
      rw [hckd]
      have g1 := HA1L.out
      have g2 := HSZ7.out
      refine ⟨_, res58 _ _ (w.heap.size + 1) m rfl (cell_end HAR.out hda), Ret.of rfl ?_⟩
      exact CkT.fail (a1 := w.heap.size + 1) HC.out (Frame.refl _ _) (KEEP.out W _ HC.out.frame (HZ.out ())).2.1 HB7.out HXLT.out (fun z hz => by
        simp only [List.mem_cons] at hz
        rcases hz with rfl | rfl | h
        · exact .inr (by omega)
        · exact .inr (by omega)
        · exact .inl h) (by omega) (by omega) HSBL.out (HSX.out ()) HM.out

end Go.Proofs.Ytkapmpngglibjaa
