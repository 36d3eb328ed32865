/- Several texts in one: what each begins with says what it shows. Conditions: each law's own premises. -/
import Derived.Test.YtkapmpngglibjaaQ29

/- A good store on a disk, plain: deeds and checkpoints keep it so, and any fall leaves the one ahead or the one behind. Conditions: each law's own premises. -/
namespace Go.Proofs.Ytkapmpngglibjaa
open Go Go.RowKit

structure StoGood (D : DM) (n : Nat) (H : HM) (r0 : List Chg) (L : LM) (ds : List (List Chg)) : Prop where
  s : StoS D.now n H r0
  g : LogGood L D ds
  lf : L.from_ = 90
  lm : L.many = n - 90
  lh : L.first = H.first
  ok : ∀ k, GoodRows (foldA r0 (ds.take k))
  lens : ∀ d ∈ ds, d.length ≤ 12
  many : ds.length ≤ L.next

theorem StoGood.rows {D : DM} {n : Nat} {H : HM} {r0 : List Chg} {L : LM} {ds : List (List Chg)} (h : StoGood D n H r0 L ds) : GoodRows (foldA r0 ds) := by
  have := h.ok ds.length
  rwa [List.take_length] at this

theorem secsL_congr {S S' : List ByteArray} {fr many : Nat} (hl : S'.length = S.length) (hf : fr + many ≤ S.length) (h : ∀ k, fr ≤ k → S'[k]? = S[k]?) : secsL S' fr many = secsL S fr many := by
  apply List.ext_getElem?
  intro j
  by_cases hj : j < many
  · rw [secsL_get _ _ _ _ hj, secsL_get _ _ _ _ hj, h _ (by omega)]
  · rw [List.getElem?_eq_none (by rw [secsL_length _ _ _ (by omega)]; omega), List.getElem?_eq_none (by rw [secsL_length _ _ _ hf]; omega)]

theorem LogGood.congr {L : LM} {D D' : DM} {ds : List (List Chg)} (h : LogGood L D ds) (hl : D'.now.length = D.now.length) (hs : ∀ k, L.from_ ≤ k → D'.now[k]? = D.now[k]?) (hz : AllSz D'.now) (hk : D'.kept = D'.now) (hw : D'.wait = []) : LogGood L D' ds :=
  ⟨⟨by rw [hl]; exact h.of_.fits, h.of_.first, h.of_.small, by rw [secsL_congr hl h.of_.fits hs]; exact h.of_.scn⟩, fun j s h1 h2 h3 => h.noC j s h1 h2 (by rw [← hs _ (by omega)]; exact h3), hz, hk, hw⟩

theorem CkOld.same {S S' : List ByteArray} {at_ : Nat} (h : CkOld S S' at_) (k : Nat) (hk : k < at_ ∨ at_ + 44 ≤ k) : S'[k]? = S[k]? := by
  by_cases hlt : k < S'.length
  · rcases h.all k _ (List.getElem?_eq_getElem hlt) with g | ⟨g1, g2, -⟩
    · rw [g, List.getElem?_eq_getElem hlt]
    · omega
  · rw [List.getElem?_eq_none (by omega), List.getElem?_eq_none (by have := h.len; omega)]

theorem CkOld.sz {S S' : List ByteArray} {at_ : Nat} (h : CkOld S S' at_) (hz : AllSz S) : AllSz S' := by
  intro s hs
  obtain ⟨k, hk⟩ := List.getElem?_of_mem hs
  rcases h.all k s hk with g | ⟨-, -, g⟩
  · exact hz s (List.mem_of_getElem? g)
  · exact g

theorem StoS.old_ {S S' : List ByteArray} {n : Nat} {H : HM} {rows : List Chg} (h : StoS S n H rows) (hc : CkOld S S' (2 + (1 - H.side) * 44)) : StoS S' n H rows := by
  have hs := h.side
  have n1 := h.n1
  exact ⟨hc.len.trans h.len, h.n1, h.n2, hc.sz h.sz, by rw [getD_congr (hc.same _ (by omega))]; exact h.h1, by rw [getD_congr (hc.same _ (by omega))]; exact h.h2, h.side, h.first, h.fit,
    by rw [catN_congr _ 44 (fun j hj => hc.same _ (by omega))]; exact h.cat, h.good, fun j s m hj hs' => h.old j s m hj (by rw [← hc.same _ (by omega)]; exact hs')⟩

theorem CkNew.sz {S S' : List ByteArray} {h : HM} {t : ByteArray} (hc : CkNew S S' h t) (hz : AllSz S) : AllSz S' := by
  intro s hs
  obtain ⟨k, hk⟩ := List.getElem?_of_mem hs
  by_cases h1 : k = h.epoch % 2
  · have := hc.head
    rw [← h1, hk] at this
    cases this
    exact padTo_size _ (by rw [headB_size]; decide)
  by_cases h2 : k < 2 + h.side * 44 ∨ 2 + h.side * 44 + chunks t.size ≤ k
  · rw [hc.rest k h1 h2] at hk
    exact hz s (List.mem_of_getElem? hk)
  · have := hc.half (k - (2 + h.side * 44)) (by omega)
    rw [show 2 + h.side * 44 + (k - (2 + h.side * 44)) = k by omega, hk] at this
    cases this
    exact padTo_size _ (chunkB_size _ _)

theorem StoS.new_ {S S' : List ByteArray} {n : Nat} {H : HM} {r0 rows : List Chg} (h : StoS S n H r0) (hg : GoodRows rows) (he : H.epoch + 1 < 1073741824) (hf : H.first + (n - 90) < 1073741824) (hc : CkNew S S' (nextH H (allB rows).size (H.first + (n - 90))) (allB rows)) :
    StoS S' n (nextH H (allB rows).size (H.first + (n - 90))) rows := by
  have hs := h.side
  have n1 := h.n1
  have n2 := h.n2
  have hfit := hg.fits
  have hf1 := h.first
  have hch : chunks (allB rows).size ≤ 44 := by unfold chunks; omega
  have hz := hc.sz h.sz
  have hrest : ∀ k, k ≠ (H.epoch + 1) % 2 → (k < 2 ∨ 90 ≤ k) → S'[k]? = S[k]? := fun k h1 h2 => hc.rest k h1 (by show k < 2 + (1 - H.side) * 44 ∨ 2 + (1 - H.side) * 44 + chunks (allB rows).size ≤ k; omega)
  refine ⟨hc.len.trans h.len, h.n1, h.n2, hz, ?_, ?_, by show 1 - H.side ≤ 1; omega, by show 1 ≤ H.first + (n - 90); omega, rfl, ?_, hg, fun j s m hj hs' hm1 hm2 => ?_⟩
  · rw [getD_of hc.head]
    exact headOf_pad _ ⟨he, by show 1 - H.side < _; omega, by show (allB rows).size < _; omega, hf⟩ (by show 1 - H.side ≤ 1; omega) hfit (by show 1 ≤ H.first + (n - 90); omega)
  · rw [show ((nextH H (allB rows).size (H.first + (n - 90))).epoch + 1) % 2 = H.epoch % 2 by show (H.epoch + 1 + 1) % 2 = _; omega, getD_congr (hrest _ (by omega) (by omega)), h.h1]
    exact Nat.lt_succ_self _
  · have hl := hc.len
    have hl2 := h.len
    exact cat_half S' _ (allB rows) hz (by show 2 + (1 - H.side) * 44 + 44 ≤ _; omega) hfit hc.half
  · have hm1' : H.first + (n - 90) + (n - 90) ≤ m := hm1
    exact h.old j s m hj (by rw [← hrest _ (by omega) (by omega)]; exact hs') (by omega) hm2

/-- The log behind a checkpoint: none of its sectors is of a number that counts. -/
theorem StoS.fresh {D : DM} {n : Nat} {H : HM} {rows : List Chg} {f : Nat} (h : StoS D.now n H rows) (hk : D.kept = D.now) (hw : D.wait = []) (hf : H.first = f) (hb : f + (n - 90) < 2147483648) (hold : ∀ (j : Nat) (s : ByteArray) (m : Nat), j < n - 90 → D.now[90 + j]? = some s → f ≤ m → m < 2147483648 → (lookOf s m).2.2 = false) :
    LogGood ⟨90, n - 90, f, 0⟩ D [] := by
  have hl := h.len
  have n1 := h.n1
  have hf1 := h.first
  have hno : NoC ⟨90, n - 90, f, 0⟩ D.now := fun j s _ hj hs hc => by
    rw [closedS, hold j s (f + j) hj hs (by omega) (by have : j < n - 90 := hj; omega)] at hc
    cases hc.1
  refine ⟨⟨by show 90 + (n - 90) ≤ D.now.length; omega, by show 1 ≤ f; omega, hb, ?_⟩, hno, h.sz, hk, hw⟩
  refine scan_noC f _ 0 [] [] 0 fun j s hs => ?_
  have hj := (List.getElem?_eq_some_iff.1 hs).1
  rw [secsL_length _ _ _ (by show 90 + (n - 90) ≤ D.now.length; omega)] at hj
  rw [secsL_get _ _ _ _ hj] at hs
  rw [Nat.zero_add]
  exact hno j s (Nat.zero_le _) hj hs

/-! ### what keeps a store good -/

theorem StoGood.restart {D : DM} {n : Nat} {H : HM} {r0 : List Chg} {L : LM} {ds : List (List Chg)} (h : StoGood D n H r0 L ds) (keep : Nat) : StoGood (D.restart keep) n H r0 L ds := by
  have e : (D.restart keep).now = D.now := by
    rw [(restart_now D keep).1, h.g.wait]
    exact h.g.kept
  exact ⟨by rw [e]; exact h.s, h.g.restart keep, h.lf, h.lm, h.lh, h.ok, h.lens, h.many⟩

theorem StoGood.arm {D : DM} {n : Nat} {H : HM} {r0 : List Chg} {L : LM} {ds : List (List Chg)} (h : StoGood D n H r0 L ds) (k : Int) : StoGood (D.arm k) n H r0 L ds :=
  ⟨h.s, ⟨h.g.of_, h.g.noC, h.g.sz, h.g.kept, h.g.wait⟩, h.lf, h.lm, h.lh, h.ok, h.lens, h.many⟩

theorem StoGood.snoc {D D' : DM} {n : Nat} {H : HM} {r0 : List Chg} {L : LM} {ds : List (List Chg)} {l : List Chg} (h : StoGood D n H r0 L ds) (h12 : l.length ≤ 12) (hg : GoodRows (applyL (foldA r0 ds) l)) (hs : StoS D'.now n H r0) (hl : LogGood (L.more l) D' (ds ++ [l])) : StoGood D' n H r0 (L.more l) (ds ++ [l]) := by
  refine ⟨hs, hl, h.lf, h.lm, h.lh, fun k => ?_, fun d hd => ?_, ?_⟩
  · by_cases hk : k ≤ ds.length
    · rw [List.take_append_of_le_length hk]
      exact h.ok k
    · rw [List.take_of_length_le (by rw [List.length_append, List.length_singleton]; omega), foldA_snoc]
      exact hg
  · rcases List.mem_append.1 hd with hd | hd
    · exact h.lens d hd
    · rw [List.mem_singleton.1 hd]
      exact h12
  · have := h.many
    rw [List.length_append, List.length_singleton]
    show _ ≤ L.next + l.length + 1
    omega

/-- A deed that fits. -/
theorem StoGood.add {D : DM} {n : Nat} {H : HM} {r0 : List Chg} {L : LM} {ds : List (List Chg)} (l : List Chg) (h : StoGood D n H r0 L ds) (h12 : l.length ≤ 12) (hff : firstFault l = 0) (hg : GoodRows (applyL (foldA r0 ds) l)) (hroom : L.next + l.length + 1 ≤ L.many) :
    ((addL L D l).1 = 0 ∧ (addL L D l).2.2 = L.more l ∧ StoGood (addL L D l).2.1 n H r0 (L.more l) (ds ++ [l]) ∧ (addL L D l).2.1.down = false) ∨
    ((addL L D l).1 = 10 ∧ (addL L D l).2.2 = L ∧ ∀ keep, StoGood ((addL L D l).2.1.restart keep) n H r0 L ds ∨ StoGood ((addL L D l).2.1.restart keep) n H r0 (L.more l) (ds ++ [l])) := by
  have hb : H.first + (n - 90) < 2147483648 := by rw [← h.lh, ← h.lm]; exact h.g.of_.small
  have hf := firstFault_zero l hff
  have h1 : L.from_ + L.many ≤ D.now.length := h.g.of_.fits
  have e : addL L D l = ((addRun L l D [0, 1, 2, 3]).1, (addRun L l D [0, 1, 2, 3]).2, if (addRun L l D [0, 1, 2, 3]).1 = 0 then { L with next := L.next + l.length + 1 } else L) := by
    rw [addL, if_neg (by omega), if_neg (by omega), if_neg (by simpa using hff)]
  rw [e]
  rcases addRun_cases L l D h1 hroom h.g.wait h.g.kept with ⟨r1, r2, r3, r4, r5⟩ | ⟨r1, r2⟩
  · left
    simp only [r1, if_pos]
    exact ⟨trivial, rfl, h.snoc h12 hg (h.s.deed h.lf h.lm h.lh hroom hb r5.len (r5.sz h.s.sz) r5.laid) ⟨r5.log h.g.of_ hf hroom, r5.noC h.g.of_ h.g.noC, r5.sz h.g.sz, r2, r3⟩, r4⟩
  · right
    simp only [r1]
    refine ⟨trivial, rfl, fun keep => ?_⟩
    obtain ⟨-, k2, k3, -⟩ := restart_now (addRun L l D [0, 1, 2, 3]).2 keep
    rcases r2 keep with r2 | r2
    · left
      obtain ⟨g1, g2⟩ := r2.log h.g.of_ h.g.noC
      exact ⟨h.s.deed h.lf h.lm h.lh hroom hb r2.len (r2.sz h.s.sz) r2.laid, ⟨g1, g2, r2.sz h.g.sz, k2, k3⟩, h.lf, h.lm, h.lh, h.ok, h.lens, h.many⟩
    · right
      exact h.snoc h12 hg (h.s.deed h.lf h.lm h.lh hroom hb r2.len (r2.sz h.s.sz) r2.laid) ⟨r2.log h.g.of_ hf hroom, r2.noC h.g.of_ h.g.noC, r2.sz h.g.sz, k2, k3⟩

theorem StoGood.oldC {D D' : DM} {n : Nat} {H : HM} {r0 : List Chg} {L : LM} {ds : List (List Chg)} (h : StoGood D n H r0 L ds) (hc : CkOld D.now D'.now (2 + (1 - H.side) * 44)) (hk : D'.kept = D'.now) (hw : D'.wait = []) : StoGood D' n H r0 L ds := by
  have hs := h.s.side
  exact ⟨h.s.old_ hc, h.g.congr hc.len (fun k hk => hc.same k (by have := h.lf; omega)) (hc.sz h.s.sz) hk hw, h.lf, h.lm, h.lh, h.ok, h.lens, h.many⟩

theorem StoGood.newC {D D' : DM} {n : Nat} {H : HM} {r0 : List Chg} {L : LM} {ds : List (List Chg)} (h : StoGood D n H r0 L ds) (he : H.epoch + 1 < 1073741824) (hf : H.first + (n - 90) < 1073741824)
    (hc : CkNew D.now D'.now (nextH H (allB (foldA r0 ds)).size (L.first + L.many)) (allB (foldA r0 ds))) (hk : D'.kept = D'.now) (hw : D'.wait = []) :
    StoGood D' n (nextH H (allB (foldA r0 ds)).size (L.first + L.many)) (foldA r0 ds) ⟨90, n - 90, L.first + L.many, 0⟩ [] := by
  rw [h.lh, h.lm] at hc ⊢
  have hS := h.s.new_ h.rows he hf hc
  have n2 := h.s.n2
  have n1 := h.s.n1
  have hfit := h.rows.fits
  have hch : chunks (allB (foldA r0 ds)).size ≤ 44 := by unfold chunks; omega
  have hsd := h.s.side
  refine ⟨hS, hS.fresh hk hw rfl (by omega) (fun j s m hj hs hm1 hm2 => h.s.old j s m hj ?_ hm1 hm2), rfl, rfl, rfl, fun k => by rw [List.take_nil]; exact h.rows, by simp, Nat.le_refl _⟩
  rw [← hc.rest (90 + j) (by show 90 + j ≠ (H.epoch + 1) % 2; omega) (.inr (by show 2 + (1 - H.side) * 44 + chunks (allB (foldA r0 ds)).size ≤ 90 + j; omega))]
  exact hs

/-- A checkpoint. -/
theorem StoGood.ck {D : DM} {n : Nat} {H : HM} {r0 : List Chg} {L : LM} {ds : List (List Chg)} (h : StoGood D n H r0 L ds) (he : H.epoch + 1 < 1073741824) (hf : H.first + (n - 90) < 1073741824) (H' : HM) (t : ByteArray) (hH : H' = nextH H (allB (foldA r0 ds)).size (L.first + L.many)) (ht : t = allB (foldA r0 ds)) :
    ((ckD D H' t).1 = 0 ∧ StoGood (ckD D H' t).2 n H' (foldA r0 ds) ⟨90, n - 90, L.first + L.many, 0⟩ [] ∧ (ckD D H' t).2.down = false) ∨
    ((ckD D H' t).1 = 10 ∧ ∀ keep, StoGood ((ckD D H' t).2.restart keep) n H r0 L ds ∨ StoGood ((ckD D H' t).2.restart keep) n H' (foldA r0 ds) ⟨90, n - 90, L.first + L.many, 0⟩ []) := by
  subst hH ht
  have hs := h.s.side
  have n1 := h.s.n1
  rcases ckD_cases D (nextH H (allB (foldA r0 ds)).size (L.first + L.many)) (allB (foldA r0 ds)) h.g.kept h.g.wait (by show 1 - H.side ≤ 1; omega) (by rw [h.s.len]; exact n1) h.rows.fits with ⟨c1, c2, c3, c4, c5⟩ | ⟨c1, c2⟩
  · exact .inl ⟨c1, h.newC he hf c5 c2 c3, c4⟩
  · refine .inr ⟨c1, fun keep => ?_⟩
    obtain ⟨-, k2, k3, -⟩ := restart_now (ckD D (nextH H (allB (foldA r0 ds)).size (L.first + L.many)) (allB (foldA r0 ds))).2 keep
    exact (c2 keep).elim (fun c => .inl (h.oldC c k2 k3)) (fun c => .inr (h.newC he hf c k2 k3))

theorem StoGood.ck_up {D : DM} {n : Nat} {H : HM} {r0 : List Chg} {L : LM} {ds : List (List Chg)} (h : StoGood D n H r0 L ds) (hu : D.Ready) (H' : HM) (t : ByteArray) (hH : H' = nextH H (allB (foldA r0 ds)).size (L.first + L.many)) (ht : t = allB (foldA r0 ds)) :
    (ckD D H' t).1 = 0 ∧ (ckD D H' t).2.Ready := by
  subst hH ht
  have hs := h.s.side
  have n1 := h.s.n1
  exact ckD_up D _ _ hu (by show 1 - H.side ≤ 1; omega) (by rw [h.s.len]; exact n1) h.rows.fits

/-! ### a formatted disk -/

theorem pad_zero_blank : padTo 140 (⟨#[]⟩ : ByteArray) = blankT := rfl

theorem fresh_good (n : Nat) (D : DM) (h1 : 104 ≤ n) (h2 : n ≤ 130) (hn : D.now = freshL n) (hk : D.kept = freshL n) (hw : D.wait = []) : StoGood D n head1 [] ⟨90, n - 90, 1, 0⟩ [] := by
  have hl : (freshL n).length = n := by rw [freshL, List.length_set, List.length_replicate]
  have hget : ∀ k, k ≠ 1 → k < n → (freshL n)[k]? = some blankT := fun k hk hlt => by
    rw [freshL, List.getElem?_set_ne (fun e => hk e.symm), List.getElem?_replicate, if_pos hlt]
  have h1' : (freshL n)[1]? = some (padTo 140 (headB head1)) := by rw [freshL, List.getElem?_set_self (by rw [List.length_replicate]; omega)]
  have hz : AllSz (freshL n) := by
    intro s hs
    obtain ⟨k, hk⟩ := List.getElem?_of_mem hs
    by_cases hk1 : k = 1
    · rw [hk1, h1'] at hk
      cases hk
      exact padTo_size _ (by rw [headB_size]; decide)
    · rw [hget k hk1 (by have := (List.getElem?_eq_some_iff.1 hk).1; omega)] at hk
      cases hk
      exact blankT_size
  have hlook : ∀ (j : Nat) (s : ByteArray) (m : Nat), j < n - 90 → (freshL n)[90 + j]? = some s → 1 ≤ m → m < 2147483648 → (lookOf s m).2.2 = false := fun j s m hj hs hm1 hm2 => by
    rw [hget _ (by omega) (by omega)] at hs
    cases hs
    exact look_blank m (by omega) hm2
  have hS : StoS D.now n head1 [] := by
    rw [hn]
    refine ⟨hl, h1, h2, hz, ?_, ?_, Nat.zero_le _, Nat.le_refl _, rfl, ?_, GoodRows.nil, fun j s m hj hs hm1 hm2 => hlook j s m hj hs (Nat.le_trans (Nat.le_add_right 1 _) hm1) hm2⟩
    · rw [show head1.epoch % 2 = 1 from rfl, getD_of h1']
      exact headOf_pad _ ⟨by decide, by decide, by decide, by decide⟩ (by decide) (by decide) (by decide)
    · rw [show (head1.epoch + 1) % 2 = 0 from rfl, getD_of (hget 0 (by decide) (by omega)), headOf_blank]
      decide
    · apply ba_ext
      rw [extract_list]
      rfl
  have hkn : D.kept = D.now := hk.trans hn.symm
  exact ⟨hS, hS.fresh hkn hw rfl (by omega) (by rw [hn]; exact hlook), rfl, rfl, rfl, fun k => by rw [List.take_nil]; exact GoodRows.nil, by simp, Nat.le_refl _⟩

end Go.Proofs.Ytkapmpngglibjaa

/- A store in memory, with its disk and its log: its rows, its room, a checkpoint, its opening. Conditions: each contract's own premises. -/
namespace Go.Proofs.Ytkapmpngglibjaa
open Go Go.RowKit Go.Shelf

theorem ChgP.go {w w' : World} {A B : List Nat} {v : Value} {l : List Chg} (h : ChgP (fun k => k ∉ A) w v l) (hf : Frame A w w') (hy : Fresh w A B) : ChgP (fun k => k ∉ B) w' v l := by
  have h1 : ChgP (fun k => k ∉ A ∧ k ∉ B) w v l := h.mono fun k hk hX => ⟨hX, fun hY => by
    rcases hy k hY with h2 | h2
    · exact hX h2
    · omega⟩
  exact (h1.frame hf fun k hk => hk.1).mono fun k _ hk => hk.2

theorem DeedsP.go {w w' : World} {A B : List Nat} {v : Value} {l : List (List Chg)} (h : DeedsP (fun k => k ∉ A) w v l) (hf : Frame A w w') (hy : Fresh w A B) : DeedsP (fun k => k ∉ B) w' v l := by
  have h1 : DeedsP (fun k => k ∉ A ∧ k ∉ B) w v l := h.mono fun k hk hX => ⟨hX, fun hY => by
    rcases hy k hY with h2 | h2
    · exact hX h2
    · omega⟩
  exact (h1.frame hf fun k hk => hk.1).mono fun k _ hk => hk.2

/-- A store, open, in memory. -/
structure StoLive (w : World) (sb lb db : Nat) (X : List Nat) (D : DM) (n : Nat) (H : HM) (vr : Value) (r0 : List Chg) (L : LM) (ds : List (List Chg)) : Prop where
  d : DiskAt w 107 111 db X D
  l : LogAt w lb db L
  s : StoAt w sb db lb H vr
  sX : sb ∉ X
  lX : lb ∉ X
  r : ChgP (fun k => k ∉ sb :: lb :: X) w vr (foldA r0 ds)
  g : StoGood D n H r0 L ds
  up : D.down = false

theorem StoLive.later {w w' : World} {sb lb db : Nat} {X : List Nat} {D : DM} {n : Nat} {H : HM} {vr : Value} {r0 : List Chg} {L : LM} {ds : List (List Chg)} (h : StoLive w sb lb db X D n H vr r0 L ds) (hb : Below w.heap.size w w') : StoLive w' sb lb db X D n H vr r0 L ds :=
  ⟨h.d.frame (Frame.of_below [] hb) (by simp), (hb.block _ (lt_of_heap h.l)).trans h.l, (hb.block _ (lt_of_heap h.s)).trans h.s, h.sX, h.lX, h.r.later hb, h.g, h.up⟩

theorem StoLive.lt {w : World} {sb lb db : Nat} {X : List Nat} {D : DM} {n : Nat} {H : HM} {vr : Value} {r0 : List Chg} {L : LM} {ds : List (List Chg)} (h : StoLive w sb lb db X D n H vr r0 L ds) : ∀ k ∈ sb :: lb :: X, k < w.heap.size := fun k hk => by
  rcases List.mem_cons.1 hk with rfl | hk
  · exact lt_of_heap h.s
  rcases List.mem_cons.1 hk with rfl | hk
  · exact lt_of_heap h.l
  · exact h.d.lt k hk

theorem StoLive.ne {w : World} {sb lb db : Nat} {X : List Nat} {D : DM} {n : Nat} {H : HM} {vr : Value} {r0 : List Chg} {L : LM} {ds : List (List Chg)} (h : StoLive w sb lb db X D n H vr r0 L ds) : sb ≠ lb := fun e => by
  have h1 := h.s
  have h2 := h.l
  unfold StoAt at h1
  unfold LogAt at h2
  rw [e, h2] at h1
  simp at h1

theorem srows_any (sb db lb : Nat) (H : HM) (vr : Value) (rows : List Chg) (w : World) (hS : StoAt w sb db lb H vr) (hR : ChangesAt w vr rows) (hn : rows.length ≤ 1000) :
    Calls Try.prog 60 #[.pointer (some ⟨sb, 0, none⟩)] w (RetV fun v w' => OwnC w' v rows ∧ (∀ k, v.ownBlock = some k → w.heap.size ≤ k) ∧ Below w.heap.size w w') := by
  obtain ⟨s0, s1, s2, s3, s4, s5, s6⟩ := hS.cells
  have HC := Lib.hid (cloneC_any vr _ w hR (cells_len rows) (flC_one rows) (by rw [List.length_map]; omega))
  clear hR
  go_enter Try.func60, Try.ntmps60
  go_wp2_with fail
  refine HC.out.mono ?_
  rintro e w1 ⟨v, rfl, ho, hB⟩
  rw [List.length_map] at ho
  have HO := Lib.hid ho
  clear ho
  go_wp2_with fail
  go_ret
  exact RetV.of ⟨owns_zero HO.out, fun k hk => (World.ownsRow.lt HO.out k hk).1, hB⟩

theorem sroom_any (sb db lb : Nat) (H : HM) (vr : Value) (L : LM) (w : World) (hS : StoAt w sb db lb H vr) (hL : LogAt w lb db L) (h1 : L.many ≤ 1000) (h2 : L.next ≤ 1000) :
    Calls Try.prog 59 #[.pointer (some ⟨sb, 0, none⟩)] w (Ret (.int .i64 ((L.many : Int) - (L.next : Int))) fun w' => ∃ n, w' = w.drewN n) := by
  obtain ⟨s0, s1, s2, s3, s4, s5, s6⟩ := hS.cells
  have HC := Lib.hid (room_any lb db L w hL h1 h2)
  go_enter Try.func59, Try.ntmps59
  go_wp2_with fail
  refine HC.out.mono ?_
  rintro e w1 ⟨rfl, n, rfl⟩
  go_wp2_with fail
  go_ret
  exact Ret.of rfl ⟨n, rfl⟩

theorem ckD_wait (D : DM) (h : HM) (t : ByteArray) : (ckD D h t).2.wait.length ≤ D.wait.length + chunks t.size + 1 := by
  have a := (ckWrites_len (2 + h.side * 44) t (List.range (chunks t.size)) 0 D).2
  rw [List.length_range] at a
  unfold ckD
  generalize ckWrites (2 + h.side * 44) t D 0 (List.range (chunks t.size)) = R at *
  have f1 := R.2.flush_wait
  have w1 := DM.wr_wait R.2.flush.2 ((h.epoch % 2 : Nat) : Int) (headB h)
  have f2 := (R.2.flush.2.write ((h.epoch % 2 : Nat) : Int) (headB h)).2.flush_wait
  split
  · split
    · split <;> omega
    · omega
  · omega

/-- What a checkpoint of a good store leaves. -/
def CkV (w : World) (sb lb db : Nat) (X : List Nat) (D : DM) (n : Nat) (H : HM) (vr : Value) (r0 : List Chg) (ds : List (List Chg)) (v : Value) (w' : World) : Prop :=
  (v = errV 0 ∧ ∃ lb' Y D' H', StoLive w' sb lb' db Y D' n H' vr (foldA r0 ds) ⟨90, n - 90, H'.first, 0⟩ [] ∧ Frame (sb :: lb :: X) w w' ∧ Fresh w (sb :: lb :: X) (sb :: lb' :: Y) ∧ H'.epoch ≤ H.epoch + 1 ∧ H'.first ≤ H.first + (n - 90) ∧ (D.Ready → D'.Ready)) ∨
  (v = errV 10 ∧ ¬ D.Ready ∧ ∃ Y D', DiskAt w' 107 111 db Y D' ∧ Fresh w X Y ∧ Frame (sb :: lb :: X) w w' ∧ D'.wait.length < 10000 ∧ ∀ keep, ∃ H' r0' L' ds', StoGood (D'.restart keep) n H' r0' L' ds' ∧ foldA r0' ds' = foldA r0 ds ∧ H'.epoch ≤ H.epoch + 1 ∧ H'.first ≤ H.first + (n - 90))

theorem ck_good {w : World} {sb lb db : Nat} {X : List Nat} {D : DM} {n : Nat} {H : HM} {vr : Value} {r0 : List Chg} {L : LM} {ds : List (List Chg)} (h : StoLive w sb lb db X D n H vr r0 L ds) (he : H.epoch < 100000000) (hf : H.first < 100000000) :
    Calls Try.prog 58 #[.pointer (some ⟨sb, 0, none⟩)] w (RetV (CkV w sb lb db X D n H vr r0 ds)) := by
  have n1 := h.g.s.n1
  have n2 := h.g.s.n2
  have hl := h.g.s.len
  have lm := h.g.lm
  have lh := h.g.lh
  have f1 := h.g.s.first
  refine (checkpoint_any sb db lb X D L H vr (foldA r0 ds) w h.d h.l h.s h.sX h.r.at h.g.rows (by omega) h.g.s.sz (by omega) (by omega) (by omega) (by omega) h.g.s.side (by rw [h.g.g.wait]; decide)).mono ?_
  rintro e w' ⟨rfl, Y, hD, hY, hF, hc⟩
  refine ⟨_, rfl, ?_⟩
  have hF2 : Frame (sb :: lb :: X) w w' := hF.mono fun k hk => by
    simp only [List.mem_cons] at hk ⊢
    exact hk.elim .inl (fun e => .inr (.inr e))
  have hlY : lb ∉ Y := fun hm => (hY _ hm).elim h.lX (fun g => by have := lt_of_heap h.l; omega)
  have hsY : sb ∉ Y := fun hm => (hY _ hm).elim h.sX (fun g => by have := lt_of_heap h.s; omega)
  have hup := fun hu => h.g.ck_up hu (nextH H (allB (foldA r0 ds)).size (L.first + L.many)) (allB (foldA r0 ds)) rfl rfl
  rcases h.g.ck (by omega) (by omega) (nextH H (allB (foldA r0 ds)).size (L.first + L.many)) (allB (foldA r0 ds)) rfl rfl with ⟨c1, c2, c3⟩ | ⟨c1, c2⟩
  · rcases hc with ⟨g, -⟩ | ⟨-, lb', g1, g2, g3, g4⟩
    · exact absurd c1 g
    left
    rw [hl] at g4
    have hscan := c2.g.scan
    have e90 : (n - 90) = n - 90 := rfl
    rw [show scan (nextH H (allB (foldA r0 ds)).size (L.first + L.many)).first 0 (secs (ckD D (nextH H (allB (foldA r0 ds)).size (L.first + L.many)) (allB (foldA r0 ds))).2 90 (n - 90)) [] [] 0 = ([], 0) from hscan] at g4
    have hFY : Fresh w (sb :: lb :: X) (sb :: lb' :: Y) := fun k hk => by
      rcases List.mem_cons.1 hk with rfl | hk
      · exact .inl (by simp)
      rcases List.mem_cons.1 hk with rfl | hk
      · exact .inr g1
      · exact (hY k hk).imp (fun e => by simp [e]) id
    refine ⟨by rw [c1], lb', Y, _, _, ⟨hD, g4, g3, hsY, g2, ?_, c2, c3⟩, hF2, hFY, Nat.le_refl _, by show L.first + L.many ≤ _; omega, fun hu => (hup hu).2⟩
    exact h.r.go hF2 hFY
  · right
    refine ⟨by rw [c1], fun hu => by have := (hup hu).1; omega, Y, _, hD, hY, hF2, ?_, fun keep => ?_⟩
    · have h1 := ckD_wait D (nextH H (allB (foldA r0 ds)).size (L.first + L.many)) (allB (foldA r0 ds))
      rw [h.g.g.wait] at h1
      have h2 := h.g.rows.fits
      have h3 : chunks (allB (foldA r0 ds)).size ≤ 44 := by unfold chunks; omega
      simp only [List.length_nil] at h1
      omega
    rcases c2 keep with c2 | c2
    · exact ⟨_, _, _, _, c2, rfl, by omega, by omega⟩
    · exact ⟨_, _, _, _, c2, rfl, Nat.le_refl _, by show L.first + L.many ≤ _; omega⟩

theorem StoGood.openHyp {D : DM} {n : Nat} {H : HM} {r0 : List Chg} {L : LM} {ds : List (List Chg)} (h : StoGood D n H r0 L ds) (hf : H.first < 1073741824) : pickN D.now 2 = H ∧ slog D H.first = (ds, L.next) ∧ OpenHyp D r0 := by
  have hp := h.s.pick
  have hs : slog D H.first = (ds, L.next) := by
    have := h.g.scan
    rw [h.lf, h.lm, h.lh] at this
    unfold slog
    rw [h.s.len]
    exact this
  have n2 := h.s.n2
  have hm := h.many
  have hnx := h.g.of_.next_le
  have lm := h.lm
  refine ⟨hp, hs, ?_⟩
  constructor
  · rw [hp]; exact h.s.cat
  · rw [hp]; exact h.s.side
  · rw [hp, h.s.fit]; exact h.s.good.fits
  · exact h.s.good
  · rw [hp]; exact h.s.first
  · rw [hp]; exact hf
  · rw [hp, hs]; exact fun d hd => Nat.le_trans (h.lens d hd) (by decide)
  · rw [hp, hs]; exact fun k => (h.ok k).most
  · rw [hp, hs]; show ds.length ≤ 200; omega

/-- What opening a good store leaves. -/
def OpV (w : World) (db : Nat) (X : List Nat) (D : DM) (n : Nat) (H : HM) (r0 : List Chg) (L : LM) (ds : List (List Chg)) (v : Value) (w' : World) : Prop :=
  Below w.heap.size w w' ∧ ∃ sb lb vr, v = .tuple #[.pointer (some ⟨sb, 0, none⟩), .nilIface] ∧ w.heap.size ≤ sb ∧ w.heap.size ≤ lb ∧ StoLive w' sb lb db X D n H vr r0 L ds

theorem open_good {w : World} {db : Nat} {X : List Nat} {D : DM} {n : Nat} {H : HM} {r0 : List Chg} {L : LM} {ds : List (List Chg)} (hD : DiskAt w 107 111 db X D) (hg : StoGood D n H r0 L ds) (hu : D.down = false) (hf : H.first < 100000000) :
    Calls Try.prog 54 #[.pointer (some ⟨db, 0, none⟩)] w (RetV (OpV w db X D n H r0 L ds)) := by
  obtain ⟨hp, hs, ho⟩ := hg.openHyp (by omega)
  have n1 := hg.s.n1
  have hl := hg.s.len
  have hH : H.epoch ≠ 0 := by have := hg.s.h2; omega
  refine (sopen_any db X D r0 w hD (by omega) hg.s.sz hu (fun _ => ho)).mono ?_
  rintro e w' ⟨v, rfl, hB, hr⟩
  refine ⟨v, rfl, hB, ?_⟩
  rw [hp, hs] at hr
  rcases hr with ⟨g, -⟩ | ⟨-, sb, lb, vr, rfl, g1, g2, g3, g4, g5, g6⟩
  · exact absurd g hH
  have hX : ∀ k ∈ X, k < w.heap.size := hD.lt
  rw [hl] at g4
  have hLL : (⟨90, n - 90, H.first, L.next⟩ : LM) = L := by
    obtain ⟨a, b, c, d⟩ := L
    have h1 := hg.lf
    have h2 := hg.lm
    have h3 := hg.lh
    simp only at h1 h2 h3
    rw [h1, h2, h3]
  refine ⟨sb, lb, vr, rfl, g1, g2, hD.frame (Frame.of_below [] hB) (by simp), by rw [← hLL]; exact g4, g3, fun hm => by have := hX _ hm; omega, fun hm => by have := hX _ hm; omega, ?_, hg, hu⟩
  refine (ChgP.of_owns g5).mono fun k hk he hm => ?_
  have h64 := owns_lt g5 he
  obtain ⟨cur, hc⟩ := h64
  rcases List.mem_cons.1 hm with rfl | hm
  · unfold StoAt at g3
    rw [hc] at g3
    simp at g3
  rcases List.mem_cons.1 hm with rfl | hm
  · unfold LogAt at g4
    rw [hc] at g4
    simp at g4
  · have := g6 k he
    have := hX k hm
    omega

end Go.Proofs.Ytkapmpngglibjaa
