/- A log on a disk, plain: what adding does, what is there behind a fall. Conditions: each law's own premises. -/
import Derived.Test.YtkapmpngglibjaaLogW
import Derived.Test.YtkapmpngglibjaaLogG
import Derived.Test.YtkapmpngglibjaaLogD
namespace Go.Proofs.Ytkapmpngglibjaa
open Go Go.RowKit

structure LogGood (L : LM) (D : DM) (ds : List (List Chg)) : Prop where
  of_ : LogOf L D.now ds
  noC : NoC L D.now
  sz : AllSz D.now
  kept : D.kept = D.now
  wait : D.wait = []

theorem noughts_blank : (⟨Array.replicate 140 0⟩ : ByteArray) = blankT := by
  apply ba_ext
  rw [blankT, padTo_list]
  rfl

/-- Blank sectors are a log without deeds. -/
theorem blank_log (L : LM) (S : List ByteArray) (h : L.from_ + L.many ≤ S.length) (h0 : L.next = 0) (h1 : 1 ≤ L.first) (h2 : L.first + L.many < 2147483648) (hb : ∀ j, j < L.many → S[L.from_ + j]? = some blankT) : LogOf L S [] ∧ NoC L S := by
  have hlook : ∀ j, j < L.many → (lookOf blankT (L.first + j)).2.2 = false := fun j hj => look_blank _ (by omega) (by omega)
  have hno : NoC L S := fun j s _ hj hs hc => by
    rw [hb j hj] at hs
    cases hs
    rw [closedS, hlook j hj] at hc
    cases hc.1
  refine ⟨⟨h, h1, h2, ?_⟩, hno⟩
  rw [scan_noC, h0]
  intro j s hs
  have hj := (List.getElem?_eq_some_iff.1 hs).1
  rw [secsL_length _ _ _ h] at hj
  rw [secsL_get _ _ _ _ hj] at hs
  rw [Nat.zero_add]
  exact hno j s (by omega) hj hs

theorem new_log (n : Nat) (L : LM) (h : L.from_ + L.many ≤ n) (h0 : L.next = 0) (h1 : 1 ≤ L.first) (h2 : L.first + L.many < 2147483648) : LogGood L (DM.new n) [] := by
  have e : (DM.new n).now = List.replicate n blankT := by rw [← noughts_blank]; rfl
  have hb := blank_log L (DM.new n).now (by rw [e]; simpa using h) h0 h1 h2 (fun j hj => by rw [e, List.getElem?_replicate, if_pos (by omega)])
  refine ⟨hb.1, hb.2, fun s hs => ?_, rfl, rfl⟩
  rw [e] at hs
  obtain ⟨-, rfl⟩ := List.mem_replicate.1 hs
  exact blankT_size

theorem firstFault_lt : ∀ (l : List Chg), firstFault l ≠ 10
  | [] => by decide
  | c :: l => by
    unfold firstFault
    split
    · exact firstFault_lt l
    · unfold faultOf
      split <;> (try split) <;> omega

/-- The log behind a deed more. -/
def LM.more (L : LM) (l : List Chg) : LM := { L with next := L.next + l.length + 1 }

theorem addL_cases {L : LM} {D : DM} {ds : List (List Chg)} (l : List Chg) (h : LogGood L D ds) :
    ((addL L D l).1 = 0 ∧ (addL L D l).2.2 = L.more l ∧ LogGood (L.more l) (addL L D l).2.1 (ds ++ [l]) ∧ (addL L D l).2.1.down = false) ∨
    ((addL L D l).1 ≠ 0 ∧ (addL L D l).1 ≠ 10 ∧ (addL L D l).2.1 = D ∧ (addL L D l).2.2 = L) ∨
    ((addL L D l).1 = 10 ∧ (addL L D l).2.2 = L ∧ ∀ keep, LogGood L ((addL L D l).2.1.restart keep) ds ∨ LogGood (L.more l) ((addL L D l).2.1.restart keep) (ds ++ [l])) := by
  by_cases h12 : 12 < l.length
  · right; left
    rw [addL, if_pos h12]
    exact ⟨Nat.succ_ne_zero _, by show ¬ (_ : Nat) = 10; simp, rfl, rfl⟩
  by_cases hroom : L.many < L.next + (l.length + 1)
  · right; left
    rw [addL, if_neg h12, if_pos hroom]
    exact ⟨Nat.succ_ne_zero _, by show ¬ (_ : Nat) = 10; simp, rfl, rfl⟩
  by_cases hff : firstFault l ≠ 0
  · right; left
    rw [addL, if_neg h12, if_neg hroom, if_pos hff]
    exact ⟨hff, firstFault_lt l, rfl, rfl⟩
  have hf := firstFault_zero l (by simpa using hff)
  have h1 : L.from_ + L.many ≤ D.now.length := h.of_.fits
  have h2 : L.next + l.length + 1 ≤ L.many := by omega
  have e : addL L D l = ((addRun L l D [0, 1, 2, 3]).1, (addRun L l D [0, 1, 2, 3]).2, if (addRun L l D [0, 1, 2, 3]).1 = 0 then { L with next := L.next + l.length + 1 } else L) := by
    rw [addL, if_neg h12, if_neg hroom, if_neg hff]
  rw [e]
  rcases addRun_cases L l D h1 h2 h.wait h.kept with ⟨r1, r2, r3, r4, r5⟩ | ⟨r1, r2⟩
  · left
    simp only [r1, if_pos]
    exact ⟨trivial, rfl, ⟨r5.log h.of_ hf h2, r5.noC h.of_ h.noC, r5.sz h.sz, r2, r3⟩, r4⟩
  · right; right
    simp only [r1]
    refine ⟨trivial, rfl, fun keep => ?_⟩
    obtain ⟨-, k2, k3, -⟩ := restart_now (addRun L l D [0, 1, 2, 3]).2 keep
    rcases r2 keep with r2 | r2
    · left
      obtain ⟨g1, g2⟩ := r2.log h.of_ h.noC
      exact ⟨g1, g2, r2.sz h.sz, k2, k3⟩
    · right
      exact ⟨r2.log h.of_ hf h2, r2.noC h.of_ h.noC, r2.sz h.sz, k2, k3⟩

theorem LogGood.restart {L : LM} {D : DM} {ds : List (List Chg)} (h : LogGood L D ds) (keep : Nat) : LogGood L (D.restart keep) ds := by
  have e : (D.restart keep).now = D.now := by
    rw [(restart_now D keep).1, h.wait]
    exact h.kept
  obtain ⟨-, k2, k3, -⟩ := restart_now D keep
  exact ⟨by rw [e]; exact h.of_, by rw [e]; exact h.noC, by rw [e]; exact h.sz, k2, k3⟩

/-- A disk that is up takes a deed that fits. -/
theorem addL_up {L : LM} {D : DM} {ds : List (List Chg)} (l : List Chg) (h : LogGood L D ds) (hu : D.Ready) (h12 : l.length ≤ 12) (hroom : L.next + l.length + 1 ≤ L.many) (hff : firstFault l = 0) :
    (addL L D l).1 = 0 ∧ (addL L D l).2.1.Ready := by
  have e : addL L D l = ((addRun L l D [0, 1, 2, 3]).1, (addRun L l D [0, 1, 2, 3]).2, if (addRun L l D [0, 1, 2, 3]).1 = 0 then { L with next := L.next + l.length + 1 } else L) := by
    rw [addL, if_neg (by omega), if_neg (by omega), if_neg (by simpa using hff)]
  rw [e]
  exact addRun_up L l D h.of_.fits hroom h.wait hu

/-- The scan that 'Open' makes. -/
theorem LogGood.scan {L : LM} {D : DM} {ds : List (List Chg)} (h : LogGood L D ds) : scan L.first 0 (secs D L.from_ L.many) [] [] 0 = (ds, L.next) := h.of_.scn

theorem LogOne.opened {base : Nat} {w0 w w' : World} {db : Nat} {X : List Nat} {D : DM} {L : LM} {ds : List (List Chg)} {v : Value} (h : One base w0 w db X D) (ho : OpenRes w db L.from_ L.many L.first (ds, L.next) v w') :
    ∃ b vd, v = .tuple #[.pointer (some ⟨b, 0, none⟩), vd, .nilIface] ∧ w.heap.size ≤ b ∧ LogOne base w0 w' b db X D L ∧ DeedsP (fun k => k ∉ b :: X) w' vd ds ∧ Below w.heap.size w w' := by
  obtain ⟨b, vd, rfl, h1, h2, h3, h4⟩ := ho
  have hX : ∀ k ∈ X, k < w.heap.size := h.d.lt
  refine ⟨b, vd, rfl, h1, ⟨h.later h4, h2, fun hb => by have := hX b hb; omega, Nat.le_trans (Nat.le_trans h.size h.below.size) h1⟩, h3.mono fun k _ hk hm => ?_, h4⟩
  rcases List.mem_cons.1 hm with rfl | hm
  · omega
  · have := hX k hm
    omega

end Go.Proofs.Ytkapmpngglibjaa
