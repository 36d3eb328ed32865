/- Deeds gathered beside a log; a disk that is up takes a deed. Conditions: the contract's own premises. -/
import Derived.Test.YtkapmpngglibjaaLogX
import Derived.Test.YtkapmpngglibjaaFork
import Derived.Test.YtkapmpngglibjaaGd
namespace Go.Proofs.Ytkapmpngglibjaa
open Go Go.RowKit

theorem DM.arm_same (D : DM) (n : Int) : (D.arm n).now = D.now ∧ (D.arm n).kept = D.kept ∧ (D.arm n).wait = D.wait := ⟨rfl, rfl, rfl⟩
theorem LogGood.arm {L : LM} {D : DM} {ds : List (List Chg)} (h : LogGood L D ds) (n : Int) : LogGood L (D.arm n) ds := ⟨h.of_, h.noC, h.sz, h.kept, h.wait⟩
theorem LogOne.moved0 {base : Nat} {w0 w w1 : World} {b db : Nat} {X : List Nat} {D D' : DM} {L : LM} (h : LogOne base w0 w b db X D L) (h1 : DiskAt w1 107 111 db X D') (f1 : Frame X w w1) : LogOne base w0 w1 b db X D' L :=
  ⟨h.o.moved h1 f1 (Fresh.refl _ _), f1.heap h.l h.nb, h.nb, h.lo⟩
theorem DeedsP.moved0 {w w' : World} {b : Nat} {X : List Nat} {v : Value} {ds : List (List Chg)} (h : DeedsP (fun k => k ∉ b :: X) w v ds) (hf : Frame X w w') : DeedsP (fun k => k ∉ b :: X) w' v ds :=
  h.frame hf fun k hk hX => hk (by simp [hX])

theorem DeedsP.elem {S : Nat → Prop} {w : World} {ao : Option Addr} {n cap : Nat} {ds : List (List Chg)} (h : DeedsP S w (.slice ao n cap) ds) (i : Nat) (d : List Chg) (hd : ds[i]? = some d) :
    ∃ b off u, ao = some ⟨b, off, none⟩ ∧ S b ∧ w.cell? ⟨b, off + i, none⟩ = some u ∧ ChgP S w u d := by
  obtain ⟨ao', cap', he, hr⟩ := h.form
  cases he
  exact hr i d hd

theorem addRun_wait (L : LM) (l : List Chg) : ∀ (js : List Nat) (D : DM), (addRun L l D js).2.wait.length ≤ D.wait.length + js.length * (l.length + 1)
  | [], D => by simp [addRun]
  | j :: js, D => by
    have h1 := addStep_wait L l D j
    have h2 := addRun_wait L l js (addStep L l D j).2
    rw [addRun]
    simp only [List.length_cons, Nat.add_mul, Nat.one_mul]
    split <;> omega
theorem addL_wait (L : LM) (D : DM) (l : List Chg) : (addL L D l).2.1.wait.length ≤ D.wait.length + 4 * (l.length + 1) := by
  have h := addRun_wait L l [0, 1, 2, 3] D
  unfold addL
  split
  · simp
  · split
    · simp
    · split
      · simp
      · exact h

theorem snoc_deeds {w3 w6 : World} {b : Nat} {Y : List Nat} {v : Value} {vs : List Value} {u : Value} {ds : List (List Chg)} {d : List Chg} {n : Nat} (hlt : ∀ k ∈ b :: Y, k < w3.heap.size) (ho : w6.ownsRow w3.heap.size 36 1 v n (vs ++ [u])) (hn : n = ds.length + 1)
    (hl : vs.length = ds.length) (hel : ∀ (i : Nat) (u : Value) (d : List Chg), vs[i]? = some u → ds[i]? = some d → ChgP (fun k => k ∉ b :: Y) w3 u d) (hu : ChgP (fun k => k ∉ b :: Y) w3 u d) (hB : Below w3.heap.size w3 w6) :
    DeedsP (fun k => k ∉ b :: Y) w6 v (ds ++ [d]) :=
  DeedsP.of_own ho (by rw [hn, List.length_append]; rfl) (by simp [hl]) (fun k hk _ hm => by have := hlt k hm; omega)
    (snoc_elems hl (fun i u d h1 h2 => (hel i u d h1 h2).later hB) (hu.later hB))

theorem zz_ok : firstFault [⟨⟨#[122]⟩, ⟨#[122]⟩, false⟩] = 0 := by
  unfold firstFault
  have : faultOf ⟨⟨#[122]⟩, ⟨#[122]⟩, false⟩ = 0 := by
    unfold faultOf
    rw [if_neg (by simp [ByteArray.toList_eq]), if_neg (by decide)]
  rw [if_pos this]
  rfl

/-- The end of the walk: a deed more behind the fall. -/
theorem app_ok {base : Nat} {w0 w : World} {b db : Nat} {X : List Nat} {D : DM} {L : LM} {ds : List (List Chg)} (h : LogOne base w0 w b db X D L) (hg : LogGood L D ds) (hu : D.Ready) (d : List Chg) (h1 : L.from_ + L.many ≤ 130) (h3 : L.first < 1073741824)
    (h12 : d.length ≤ 12) (hroom : L.next + d.length + 1 ≤ L.many) (hff : firstFault d = 0) (v : Value) (hv : ChgP (fun k => k ∉ b :: X) w v d) :
    Calls Try.prog 47 #[.pointer (some ⟨b, 0, none⟩), v] w (Ret .nilIface fun w' => ∃ Y D', D'.Ready ∧ LogGood (L.more d) D' (ds ++ [d]) ∧ LogOne base w0 w' b db Y D' (L.more d) ∧ Fresh w X Y ∧ Frame (b :: X) w w') := by
  have hn : L.next ≤ L.many := hg.of_.next_le
  obtain ⟨z1, z2⟩ := addL_up d hg hu h12 hroom hff
  refine (add_any b db X D L v d w h.o.d h.l h.nb (hv.mono fun k _ hk hX => hk (by simp [hX])) h1 hn h3 (by rw [hg.wait]; exact (by decide : 0 < 8000)) (by omega)).mono ?_
  rintro e w' ⟨rfl, ha⟩
  rcases addL_cases d hg with ⟨c1, c2, c3, c4⟩ | ⟨c1, c2, c3, c4⟩ | ⟨c1, c2, c3⟩
  · rw [c2] at ha
    obtain ⟨Y, h1, h2, h3⟩ := h.added ha
    exact Ret.of (by rw [c1]; rfl) ⟨Y, _, z2, c3, h1, h2, h3⟩
  · exact absurd z1 c1
  · rw [z1] at c1
    cases c1

/-- What adding answers where the disk is up. -/
def addF (L : LM) (l : List Chg) : Nat := if 12 < l.length then 2 else if L.many < L.next + (l.length + 1) then 9 else firstFault l

theorem add_up {base : Nat} {w0 w : World} {b db : Nat} {X : List Nat} {D : DM} {L : LM} {ds : List (List Chg)} (h : LogOne base w0 w b db X D L) (hg : LogGood L D ds) (hu : D.Ready) (d : List Chg) (h1 : L.from_ + L.many ≤ 130) (h3 : L.first < 1073741824)
    (hl : d.length ≤ 1000) (v : Value) (hv : ChgP (fun k => k ∉ b :: X) w v d) :
    Calls Try.prog 47 #[.pointer (some ⟨b, 0, none⟩), v] w (Ret (errV (addF L d)) fun w' => ∃ Y D' L' ds', D'.Ready ∧ LogGood L' D' ds' ∧ LogOne base w0 w' b db Y D' L' ∧ Fresh w X Y ∧ Frame (b :: X) w w' ∧
      ((addF L d = 0 ∧ L' = L.more d ∧ ds' = ds ++ [d]) ∨ (addF L d ≠ 0 ∧ L' = L ∧ ds' = ds))) := by
  have hn : L.next ≤ L.many := hg.of_.next_le
  by_cases h0 : addF L d = 0
  · have h12 : d.length ≤ 12 := by
      unfold addF at h0
      split at h0 <;> omega
    have hroom : L.next + d.length + 1 ≤ L.many := by
      unfold addF at h0
      split at h0
      · omega
      · split at h0 <;> omega
    have hff : firstFault d = 0 := by
      rw [addF, if_neg (by omega), if_neg (by omega)] at h0
      exact h0
    refine (app_ok h hg hu d h1 h3 h12 hroom hff v hv).mono ?_
    rintro e w' ⟨rfl, Y, D', q1, q2, q3, q4, q5⟩
    exact Ret.of (by rw [h0]; rfl) ⟨Y, D', L.more d, ds ++ [d], q1, q2, q3, q4, q5, .inl ⟨h0, rfl, rfl⟩⟩
  · refine (add_any b db X D L v d w h.o.d h.l h.nb (hv.mono fun k _ hk hX => hk (by simp [hX])) h1 hn h3 (by rw [hg.wait]; exact (by decide : 0 < 8000)) hl).mono ?_
    rintro e w' ⟨rfl, ha⟩
    have e : addL L D d = (addF L d, D, L) := by
      unfold addL addF
      split
      · rfl
      · split
        · rfl
        · rename_i ha hb
          rw [addF, if_neg ha, if_neg hb] at h0
          rw [if_pos h0]
    rw [e] at ha ⊢
    obtain ⟨Y, q1, q2, q3⟩ := h.added ha
    exact Ret.of rfl ⟨Y, D, L, ds, hu, hg, q1, q2, q3, .inr ⟨h0, rfl, rfl⟩⟩

end Go.Proofs.Ytkapmpngglibjaa
