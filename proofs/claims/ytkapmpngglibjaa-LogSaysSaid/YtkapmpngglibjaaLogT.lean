/- A deed is added to a log on a disk that may fall: plain. No condition beyond each law's own. -/
import Derived.Test.YtkapmpngglibjaaLogS
namespace Go.Proofs.Ytkapmpngglibjaa
open Go Go.RowKit

def blankT : ByteArray := padTo 140 ⟨#[]⟩

/-- All of a deed is laid. -/
structure Full (L : LM) (l : List Chg) (S S' : List ByteArray) : Prop where
  len : S'.length = S.length
  op : ∀ (j : Nat) (c : Chg), l[j]? = some c → S'[L.from_ + L.next + j]? = some (opT L j c)
  cl : S'[L.from_ + L.next + l.length]? = some (clT L l.length)
  bl : L.next + l.length + 1 < L.many → S'[L.from_ + L.next + l.length + 1]? = some blankT
  old : ∀ k, (k < L.from_ + L.next ∨ L.from_ + L.next + l.length + 1 < k ∨ (k = L.from_ + L.next + l.length + 1 ∧ L.many ≤ L.next + l.length + 1)) → S'[k]? = S[k]?

/-- Some of it is laid, but not its end. -/
def halfAt (L : LM) (l : List Chg) (S : List ByteArray) (k : Nat) (s : ByteArray) : Prop :=
  S[k]? = some s ∨ (∃ j c, l[j]? = some c ∧ k = L.from_ + L.next + j ∧ s = opT L j c) ∨ (L.next + l.length + 1 < L.many ∧ k = L.from_ + L.next + l.length + 1 ∧ s = blankT)
structure Half (L : LM) (l : List Chg) (S S' : List ByteArray) : Prop where
  len : S'.length = S.length
  all : ∀ (k : Nat) (s : ByteArray), S'[k]? = some s → halfAt L l S k s

/-- What the first step leaves. -/
theorem layL_run (L : LM) (l : List Chg) (D : DM) (h1 : L.from_ + L.many ≤ D.now.length) (h2 : L.next + l.length + 1 ≤ L.many) (hw : D.wait = []) :
    ((layL L D l).1 = 0 ∨ (layL L D l).1 = 10) ∧ (layL L D l).2.kept = D.kept ∧ (layL L D l).2.now.length = D.now.length ∧ (∀ t ∈ (layL L D l).2.wait, halfAt L l D.now t.1 t.2) ∧
    ((layL L D l).1 = 0 → (∀ (j : Nat) (c : Chg), l[j]? = some c → (layL L D l).2.now[L.from_ + L.next + j]? = some (opT L j c)) ∧
      (L.next + l.length + 1 < L.many → (layL L D l).2.now[L.from_ + L.next + l.length + 1]? = some blankT) ∧
      (∀ k, (k < L.from_ + L.next ∨ k = L.from_ + L.next + l.length ∨ L.from_ + L.next + l.length + 1 < k ∨ (k = L.from_ + L.next + l.length + 1 ∧ L.many ≤ L.next + l.length + 1)) → (layL L D l).2.now[k]? = D.now[k]?)) := by
  obtain ⟨r1, r2, r3, ⟨ws, r4, r5⟩, r6⟩ := layD_run L l 0 D (by omega)
  have hop : ∀ t ∈ ws, halfAt L l D.now t.1 t.2 := fun t ht => by
    obtain ⟨j, c, hj, h3, h4⟩ := r5 t ht
    rw [Nat.zero_add] at h3 h4
    exact .inr (.inl ⟨j, c, hj, h3, h4⟩)
  rw [hw, List.nil_append] at r4
  simp only [Nat.zero_add, Nat.add_zero] at r6
  unfold layL
  split
  · rename_i h0
    obtain ⟨g1, g2⟩ := r6 h0
    split
    · rename_i hfit
      have hwc := write_cases (layD L D 0 l).2 (L.from_ + (L.next + l.length + 1)) ⟨#[]⟩ (by rw [r3]; omega) (Nat.zero_le _)
      rcases hwc with ⟨w0, w1, w2, w3, -⟩ | ⟨w0, w1, w2, w3⟩
      · refine ⟨.inl w0, w1.trans r2, by rw [w2, List.length_set, r3], ?_, fun _ => ⟨?_, ?_, ?_⟩⟩
        · intro t ht
          rw [w3, r4, List.mem_append] at ht
          rcases ht with ht | ht
          · exact hop t ht
          · obtain rfl : t = _ := by simpa using ht
            exact .inr (.inr ⟨hfit, by simp only; omega, rfl⟩)
        · intro j c hj
          have hjl := (List.getElem?_eq_some_iff.1 hj).1
          rw [w2, List.getElem?_set_ne (by omega)]
          exact g1 j c hj
        · intro _
          rw [w2, show L.from_ + L.next + l.length + 1 = L.from_ + (L.next + l.length + 1) by omega, List.getElem?_set_self (by rw [r3]; omega)]
          rfl
        · intro k hk
          rw [w2, List.getElem?_set_ne (by omega)]
          exact g2 k (by omega)
      · refine ⟨.inr w0, w1.trans r2, by rw [w2, r3], ?_, fun h => by omega⟩
        intro t ht
        rw [w3, r4] at ht
        exact hop t ht
    · rename_i hfit
      refine ⟨r1, r2, r3, fun t ht => hop t (by rw [← r4]; exact ht), fun h => ⟨g1, fun h => absurd h hfit, fun k hk => g2 k (by omega)⟩⟩
  · rename_i h0
    refine ⟨r1, r2, r3, fun t ht => hop t (by rw [← r4]; exact ht), fun h => absurd h h0⟩

theorem restart_now (D : DM) (keep : Nat) : (D.restart keep).now = keepFrom keep 0 D.wait D.kept ∧ (D.restart keep).kept = (D.restart keep).now ∧ (D.restart keep).wait = [] ∧ (D.restart keep).Ready :=
  ⟨rfl, rfl, rfl, rfl, rfl⟩

/-- The whole run: it is done, or the disk fell: then what is there is the half of it, or the whole. -/
theorem addRun_cases (L : LM) (l : List Chg) (D : DM) (h1 : L.from_ + L.many ≤ D.now.length) (h2 : L.next + l.length + 1 ≤ L.many) (hw : D.wait = []) (hk : D.kept = D.now) :
    ((addRun L l D [0, 1, 2, 3]).1 = 0 ∧ (addRun L l D [0, 1, 2, 3]).2.kept = (addRun L l D [0, 1, 2, 3]).2.now ∧ (addRun L l D [0, 1, 2, 3]).2.wait = [] ∧ (addRun L l D [0, 1, 2, 3]).2.down = false ∧ Full L l D.now (addRun L l D [0, 1, 2, 3]).2.now) ∨
    ((addRun L l D [0, 1, 2, 3]).1 = 10 ∧ ∀ keep, Half L l D.now ((addRun L l D [0, 1, 2, 3]).2.restart keep).now ∨ Full L l D.now ((addRun L l D [0, 1, 2, 3]).2.restart keep).now) := by
  obtain ⟨r1, r2, r3, r4, r5⟩ := layL_run L l D h1 h2 hw
  have halfR : ∀ (E : DM), E.kept = D.kept → (∀ t ∈ E.wait, halfAt L l D.now t.1 t.2) → ∀ keep, Half L l D.now (E.restart keep).now := fun E e1 e2 keep => by
    refine ⟨by rw [(restart_now E keep).1, keepFrom_length, e1, hk], fun k s hs => ?_⟩
    rw [(restart_now E keep).1] at hs
    exact keepFrom_all (halfAt L l D.now) keep E.wait 0 E.kept (fun k s hs => .inl (by rw [← hk, ← e1]; exact hs)) e2 k s hs
  unfold addRun
  rw [show addStep L l D 0 = layL L D l from rfl]
  by_cases h0 : (layL L D l).1 = 0
  case neg =>
    rw [if_neg h0]
    exact .inr ⟨by omega, fun keep => .inl (halfR _ r2 r4 keep)⟩
  rw [if_pos h0]
  obtain ⟨g1, g2, g3⟩ := r5 h0
  clear r5 r1 h0
  generalize (layL L D l).2 = E1 at *
  unfold addRun
  rw [show addStep L l E1 1 = E1.flush from rfl]
  rcases flush_cases E1 with ⟨f0, f1, f2, f3, f4⟩ | ⟨f0, f1, f2, f3⟩
  case inr =>
    rw [if_neg (by omega)]
    exact .inr ⟨f0, fun keep => .inl (halfR _ (f1.trans r2) (by rw [f3]; exact r4) keep)⟩
  rw [if_pos f0]
  -- behind the first flush
  have half1 : ∀ (k : Nat) (s : ByteArray), E1.now[k]? = some s → halfAt L l D.now k s := fun k s hs => by
    by_cases ha : L.from_ + L.next ≤ k ∧ k < L.from_ + L.next + l.length
    · obtain ⟨c, hc⟩ : ∃ c, l[k - (L.from_ + L.next)]? = some c := ⟨_, List.getElem?_eq_getElem (by omega)⟩
      have := g1 _ c hc
      rw [show L.from_ + L.next + (k - (L.from_ + L.next)) = k by omega, hs] at this
      cases this
      exact .inr (.inl ⟨_, c, hc, by omega, rfl⟩)
    · by_cases hb : k = L.from_ + L.next + l.length + 1 ∧ L.next + l.length + 1 < L.many
      · obtain ⟨rfl, hb⟩ := hb
        have := g2 hb
        rw [hs] at this
        cases this
        exact .inr (.inr ⟨hb, rfl, rfl⟩)
      · exact .inl (by rw [← g3 k (by omega)]; exact hs)
  have half2 : ∀ (E : DM), E.kept = E1.now → E.wait = [] → ∀ keep, Half L l D.now (E.restart keep).now := fun E e1 e2 keep => by
    refine ⟨by rw [(restart_now E keep).1, keepFrom_length, e1, r3], fun k s hs => ?_⟩
    rw [(restart_now E keep).1, e2, keepFrom, e1] at hs
    exact half1 k s hs
  have full : ∀ S, S = E1.now.set (L.from_ + (L.next + l.length)) (clT L l.length) → Full L l D.now S := fun S hS => by
    subst hS
    refine ⟨by rw [List.length_set, r3], fun j c hj => ?_, ?_, fun hb => ?_, fun k hk => ?_⟩
    · have := (List.getElem?_eq_some_iff.1 hj).1
      rw [List.getElem?_set_ne (by omega)]
      exact g1 j c hj
    · rw [show L.from_ + L.next + l.length = L.from_ + (L.next + l.length) by omega, List.getElem?_set_self (by omega)]
    · rw [List.getElem?_set_ne (by omega)]
      exact g2 hb
    · rw [List.getElem?_set_ne (by omega)]
      exact g3 k (by omega)
  generalize E1.flush.2 = E2 at *
  unfold addRun
  rw [show addStep L l E2 2 = E2.write ((L.from_ + (L.next + l.length) : Nat) : Int) (textB 99 (L.first + (L.next + l.length)) (fourB l.length)) from rfl]
  have hwc := write_cases E2 (L.from_ + (L.next + l.length)) (textB 99 (L.first + (L.next + l.length)) (fourB l.length)) (by rw [f2, r3]; omega) (by rw [textB_size]; exact (by decide : 7 + 4 ≤ 140))
  rcases hwc with ⟨w0, w1, w2, w3, -⟩ | ⟨w0, w1, w2, w3⟩
  case inr =>
    rw [if_neg (by omega)]
    exact .inr ⟨w0, fun keep => .inl (half2 _ (w1.trans f1) (w3.trans f3) keep)⟩
  rw [if_pos w0]
  generalize (E2.write ((L.from_ + (L.next + l.length) : Nat) : Int) (textB 99 (L.first + (L.next + l.length)) (fourB l.length))).2 = E3 at *
  unfold addRun
  rw [show addStep L l E3 3 = E3.flush from rfl]
  rcases flush_cases E3 with ⟨k0, k1, k2, k3, k4⟩ | ⟨k0, k1, k2, k3⟩
  · rw [if_pos k0]
    unfold addRun
    exact .inl ⟨rfl, k1.trans k2.symm, k3, k4, full _ (by rw [k2, w2, f2]; rfl)⟩
  · rw [if_neg (by omega)]
    refine .inr ⟨k0, fun keep => ?_⟩
    have hn := (restart_now E3.flush.2 keep).1
    rw [k3, w3, f3, k1, w1, f1, List.nil_append, keepFrom, keepFrom] at hn
    by_cases hbit : keep.testBit (0 % 64) = true
    · rw [if_pos hbit] at hn
      exact .inr (full _ hn)
    · rw [if_neg hbit] at hn
      refine .inl ⟨by rw [hn, r3], fun k s hs => half1 k s (by rw [← hn]; exact hs)⟩

theorem addRun_up (L : LM) (l : List Chg) (D : DM) (h1 : L.from_ + L.many ≤ D.now.length) (h2 : L.next + l.length + 1 ≤ L.many) (hw : D.wait = []) (hu : D.Ready) :
    (addRun L l D [0, 1, 2, 3]).1 = 0 ∧ (addRun L l D [0, 1, 2, 3]).2.Ready := by
  have hlay : (layL L D l).1 = 0 ∧ (layL L D l).2.Ready := by
    obtain ⟨a, b⟩ := layD_up L l 0 D hu (by omega)
    have hlen := (layD_run L l 0 D (by omega)).2.2.1
    unfold layL
    rw [if_pos a]
    split
    · exact write_up b (L.from_ + (L.next + l.length + 1)) ⟨#[]⟩ (by rw [hlen]; omega) (Nat.zero_le _)
    · exact ⟨a, b⟩
  have hlen := (layL_run L l D h1 h2 hw).2.2.1
  unfold addRun
  rw [show addStep L l D 0 = layL L D l from rfl, if_pos hlay.1]
  have hf := flush_up hlay.2
  have hfn : (layL L D l).2.flush.2.now.length = D.now.length := by
    rcases flush_cases (layL L D l).2 with ⟨-, -, f2, -⟩ | ⟨-, -, f2, -⟩ <;> rw [f2, hlen]
  unfold addRun
  rw [show addStep L l (layL L D l).2 1 = (layL L D l).2.flush from rfl, if_pos hf.1]
  have hc := write_up hf.2 (L.from_ + (L.next + l.length)) (textB 99 (L.first + (L.next + l.length)) (fourB l.length)) (by rw [hfn]; omega) (by rw [textB_size]; exact (by decide : 7 + 4 ≤ 140))
  unfold addRun
  rw [show addStep L l (layL L D l).2.flush.2 2 = (layL L D l).2.flush.2.write ((L.from_ + (L.next + l.length) : Nat) : Int) (textB 99 (L.first + (L.next + l.length)) (fourB l.length)) from rfl, if_pos hc.1]
  have hf2 := flush_up hc.2
  unfold addRun
  rw [show ∀ E, addStep L l E 3 = E.flush from fun _ => rfl, if_pos hf2.1]
  unfold addRun
  exact ⟨rfl, hf2.2⟩

end Go.Proofs.Ytkapmpngglibjaa
