/- A log on any sectors, on a disk that is up: adding. And texts that come in. Conditions: each law's own premises. -/
import Derived.Test.YtkapmpngglibjaaLogZ
namespace Go.Proofs.Ytkapmpngglibjaa
open Go Go.RowKit Go.ChangeShapes Go.WideShapes Go.Deep

/-- Two disks that read alike, and fall alike. -/
def Like (D E : DM) : Prop := D.now = E.now ∧ D.fuse = E.fuse ∧ D.down = E.down
def DM.clean (D : DM) : DM := { D with kept := D.now, wait := [] }
theorem Like.clean (D : DM) : Like D D.clean := ⟨rfl, rfl, rfl⟩

theorem Like.step {D E : DM} (h : Like D E) : D.step.1 = E.step.1 ∧ Like D.step.2 E.step.2 := by
  obtain ⟨h1, h2, h3⟩ := h
  unfold DM.step
  rw [h2, h3]
  split
  · exact ⟨rfl, h1, h2, h3⟩
  · split
    · exact ⟨rfl, h1, rfl, rfl⟩
    · exact ⟨rfl, h1, rfl, rfl⟩

theorem Like.write {D E : DM} (h : Like D E) (i : Int) (s : ByteArray) : (D.write i s).1 = (E.write i s).1 ∧ Like (D.write i s).2 (E.write i s).2 := by
  obtain ⟨s1, s2⟩ := h.step
  unfold DM.write
  rw [h.1, s1]
  split
  · exact ⟨rfl, h⟩
  · split
    · exact ⟨rfl, by simp only [DM.put, s2.1], s2.2.1, s2.2.2⟩
    · exact ⟨rfl, s2⟩

theorem Like.flush {D E : DM} (h : Like D E) : D.flush.1 = E.flush.1 ∧ Like D.flush.2 E.flush.2 := by
  obtain ⟨s1, s2⟩ := h.step
  unfold DM.flush
  rw [s1]
  split
  · exact ⟨rfl, s2.1, s2.2.1, s2.2.2⟩
  · exact ⟨rfl, s2⟩

theorem Like.layD (L : LM) : ∀ (l : List Chg) (i : Nat) {D E : DM}, Like D E → (layD L D i l).1 = (layD L E i l).1 ∧ Like (layD L D i l).2 (layD L E i l).2
  | [], _, _, _, h => ⟨rfl, h⟩
  | c :: l, i, D, E, h => by
    obtain ⟨s1, s2⟩ := h.write ((L.from_ + L.next + i : Nat) : Int) (textB 111 (L.first + L.next + i) (bytesOf c))
    rw [layD.eq_2, layD.eq_2, s1]
    split
    · exact Like.layD L l (i + 1) s2
    · exact ⟨s1, s2⟩

theorem Like.layL (L : LM) (l : List Chg) {D E : DM} (h : Like D E) : (layL L D l).1 = (layL L E l).1 ∧ Like (layL L D l).2 (layL L E l).2 := by
  obtain ⟨s1, s2⟩ := Like.layD L l 0 h
  unfold Go.Proofs.Ytkapmpngglibjaa.layL
  rw [s1]
  split
  · split
    · exact s2.write _ _
    · exact ⟨s1, s2⟩
  · exact ⟨s1, s2⟩

theorem Like.addStep (L : LM) (l : List Chg) {D E : DM} (h : Like D E) (j : Nat) : (addStep L l D j).1 = (addStep L l E j).1 ∧ Like (addStep L l D j).2 (addStep L l E j).2 := by
  unfold Go.Proofs.Ytkapmpngglibjaa.addStep
  split
  · exact Like.layL L l h
  · exact h.flush
  · exact h.write _ _
  · exact h.flush

theorem Like.addRun (L : LM) (l : List Chg) : ∀ (js : List Nat) {D E : DM}, Like D E → (addRun L l D js).1 = (addRun L l E js).1 ∧ Like (addRun L l D js).2 (addRun L l E js).2
  | [], _, _, h => ⟨rfl, h⟩
  | j :: js, D, E, h => by
    obtain ⟨s1, s2⟩ := Like.addStep L l h j
    rw [Go.Proofs.Ytkapmpngglibjaa.addRun, Go.Proofs.Ytkapmpngglibjaa.addRun, s1]
    split
    · exact Like.addRun L l js s2
    · exact ⟨s1, s2⟩

/-- Adding, where the disk is up, whatever else lies on it. -/
theorem addL_upW {L : LM} {D : DM} {ds : List (List Chg)} (l : List Chg) (hL : LogOf L D.now ds) (hz : AllSz D.now) (hu : D.Ready) :
    (addL L D l).1 = addF L l ∧ (addL L D l).2.1.Ready ∧ AllSz (addL L D l).2.1.now ∧ (addL L D l).2.1.now.length = D.now.length ∧
    ((addF L l = 0 ∧ (addL L D l).2.2 = L.more l ∧ LogOf (L.more l) (addL L D l).2.1.now (ds ++ [l])) ∨ (addF L l ≠ 0 ∧ (addL L D l).2.1 = D ∧ (addL L D l).2.2 = L)) := by
  by_cases h0 : addF L l = 0
  · have h12 : l.length ≤ 12 := by
      unfold addF at h0
      split at h0 <;> omega
    have hroom : L.next + l.length + 1 ≤ L.many := by
      unfold addF at h0
      split at h0
      · omega
      · split at h0 <;> omega
    have hff : firstFault l = 0 := by
      rw [addF, if_neg (by omega), if_neg (by omega)] at h0
      exact h0
    have e : addL L D l = ((addRun L l D [0, 1, 2, 3]).1, (addRun L l D [0, 1, 2, 3]).2, if (addRun L l D [0, 1, 2, 3]).1 = 0 then { L with next := L.next + l.length + 1 } else L) := by
      rw [addL, if_neg (by omega), if_neg (by omega), if_neg (by simpa using hff)]
    obtain ⟨k1, k2⟩ := Like.addRun L l [0, 1, 2, 3] (Like.clean D)
    have hup := addRun_up L l D.clean hL.fits hroom rfl ⟨hu.1, hu.2⟩
    have hfull : Full L l D.now (addRun L l D.clean [0, 1, 2, 3]).2.now := by
      rcases addRun_cases L l D.clean hL.fits hroom rfl rfl with ⟨-, -, -, -, r5⟩ | ⟨r1, -⟩
      · exact r5
      · rw [hup.1] at r1
        cases r1
    rw [← k2.1] at hfull
    rw [hup.1] at k1
    rw [e, h0]
    simp only [k1, if_pos]
    exact ⟨trivial, ⟨k2.2.2.trans hup.2.1, k2.2.1.trans hup.2.2⟩, hfull.sz hz, hfull.len, .inl ⟨trivial, rfl, hfull.log hL (firstFault_zero l hff) hroom⟩⟩
  · have e : addL L D l = (addF L l, D, L) := by
      unfold addL addF
      split
      · rfl
      · split
        · rfl
        · rename_i ha hb
          rw [addF, if_neg ha, if_neg hb] at h0
          rw [if_pos h0]
    rw [e]
    exact ⟨rfl, hu, hz, rfl, .inr ⟨h0, rfl, rfl⟩⟩

theorem add_upW {base : Nat} {w0 w : World} {b db : Nat} {X : List Nat} {D : DM} {L : LM} {ds : List (List Chg)} (h : LogOne base w0 w b db X D L) (hg : LogOf L D.now ds) (hz : AllSz D.now) (hu : D.Ready) (d : List Chg) (h1 : L.from_ + L.many ≤ 130) (h3 : L.first < 1073741824)
    (hl : d.length ≤ 1000) (hwait : D.wait.length < 8000) (v : Value) (hv : ChgP (fun k => k ∉ b :: X) w v d) :
    Calls Try.prog 47 #[.pointer (some ⟨b, 0, none⟩), v] w (Ret (errV (addF L d)) fun w' => ∃ Y D' L' ds', D'.Ready ∧ LogOf L' D'.now ds' ∧ AllSz D'.now ∧ D'.now.length = D.now.length ∧ D'.wait.length ≤ D.wait.length + 4 * (d.length + 1) ∧ LogOne base w0 w' b db Y D' L' ∧ Fresh w X Y ∧ Frame (b :: X) w w' ∧
      ((addF L d = 0 ∧ L' = L.more d ∧ ds' = ds ++ [d]) ∨ (addF L d ≠ 0 ∧ L' = L ∧ ds' = ds))) := by
  refine (add_any b db X D L v d w h.o.d h.l h.nb (hv.mono fun k _ hk hX => hk (by simp [hX])) h1 hg.next_le h3 hwait hl).mono ?_
  rintro e w' ⟨rfl, ha⟩
  obtain ⟨q1, q2, q3, q4, q5⟩ := addL_upW d hg hz hu
  obtain ⟨Y, z1, z2, z3⟩ := h.added ha
  refine Ret.of (by rw [q1]) ⟨Y, _, (addL L D d).2.2, if addF L d = 0 then ds ++ [d] else ds, q2, ?_, q3, q4, addL_wait L D d, z1, z2, z3, ?_⟩
  · rcases q5 with ⟨a, b, c⟩ | ⟨a, b, c⟩
    · rw [b, if_pos a]
      exact c
    · rw [b, c, if_neg a]
      exact hg
  · rcases q5 with ⟨a, b, c⟩ | ⟨a, b, c⟩
    · exact .inl ⟨a, b, if_pos a⟩
    · exact .inr ⟨a, c, if_neg a⟩

/-- Texts that come in. -/
def StrsAt (w : World) (v : Value) (l : List ByteArray) : Prop := ∃ ao cap, v = .slice ao l.length cap ∧ l.length ≤ maxLen ∧
  ∀ (i : Nat) (s : ByteArray), l[i]? = some s → ∃ b off, ao = some ⟨b, off, none⟩ ∧ w.cell? ⟨b, off + i, none⟩ = some (.string s)

theorem StrsAt.elem {w : World} {ao : Option Addr} {n cap : Nat} {l : List ByteArray} (h : StrsAt w (.slice ao n cap) l) (i : Nat) (s : ByteArray) (hs : l[i]? = some s) :
    ∃ b off, ao = some ⟨b, off, none⟩ ∧ w.cell? ⟨b, off + i, none⟩ = some (.string s) := by
  obtain ⟨ao', cap', he, -, hr⟩ := h
  cases he
  exact hr i s hs

section
variable {H : Type} {enc : TypeId × Value → H} {w : World} {sp : Nat → Bool} {held : Bool}
theorem open_texts {fuel : Nat} {v : Value} {x : DataW H × List MemPlace} (h : DataW.trod enc Try.prog w 0 sp held fuel 47 [v] = some x) : ∃ l, StrsAt w v l := by
  rcases open_slice Try.underlying47 h with ⟨hv, -⟩ | ⟨a, len, cap, m, n, D, Pl, hcs, -, hl, hm, hmm, -, hi⟩
  · obtain rfl : v = .slice none 0 0 := by simpa using hv
    exact ⟨[], none, 0, rfl, Nat.zero_le _, fun i s h => by simp at h⟩
  · obtain rfl : v = .slice (some a) len cap := by simpa using hcs
    have hlm : len ≤ m := by rw [hmm]; split <;> omega
    have hC : Try.prog.cellsOf 9 = 1 := by kernel_rfl
    have hall : ∀ i, ∃ s : ByteArray, i < len → w.cell? (a.add i) = some (.string s) := fun i => by
      by_cases hil : i < len
      · obtain ⟨cs', hc, ht'⟩ := hi i (by omega)
        rw [hC, Nat.mul_one] at hc
        obtain ⟨-, hlen, hat⟩ := World.cells?_some hc
        obtain ⟨u, rfl⟩ : ∃ u, cs' = [u] := by
          match cs', hlen with
          | [u], _ => exact ⟨u, rfl⟩
        have h0 := hat 0 (by omega)
        rw [Addr.add, if_pos rfl] at h0
        obtain ⟨s, e0, -⟩ := DataW.trod_string Try.underlying9 ht'
        simp only [List.cons.injEq, and_true] at e0
        subst e0
        exact ⟨s, fun _ => h0⟩
      · exact ⟨ByteArray.empty, fun h => absurd h hil⟩
    obtain ⟨U, hU⟩ := Classical.axiomOfChoice hall
    refine ⟨(List.range len).map U, some a, cap, by simp, by simpa using Nat.le_trans hl hm, fun i s hs => ?_⟩
    have hil : i < len := by simpa using (List.getElem?_eq_some_iff.1 hs).1
    simp [hil] at hs
    subst hs
    have h3 := hU i hil
    have hspot : a.spot = none := by
      have h4 := hU 0 (by omega)
      rw [Addr.add, if_pos rfl] at h4
      unfold World.cell? at h4
      split at h4
      · split at h4
        · cases h4
        · cases hs : a.spot <;> simp_all
      · cases h4
    obtain ⟨b, off, sp'⟩ := a
    simp only at hspot
    subst hspot
    rw [add_off] at h3
    exact ⟨b, off, rfl, h3⟩
end

end Go.Proofs.Ytkapmpngglibjaa
