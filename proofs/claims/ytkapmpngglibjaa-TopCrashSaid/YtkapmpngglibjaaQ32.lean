/- Several texts in one: what each begins with says what it shows. Conditions: each law's own premises. -/
import Derived.Test.YtkapmpngglibjaaQ31

/- A store on a new disk; a closed fact of it. Conditions: each contract's own premises. -/
namespace Go.Proofs.Ytkapmpngglibjaa
open Go Go.RowKit Go.Shelf

/-- A new disk is blank. -/
theorem new_blank (n : Nat) : BlankD n (DM.new n) := ⟨⟨rfl, rfl⟩, by rw [← noughts_blank]; rfl⟩

def StoredV (w : World) (n : Nat) (v : Value) (w' : World) : Prop :=
  Below w.heap.size w w' ∧ ∃ sb lb db X D vr, v = .tuple #[.pointer (some ⟨db, 0, none⟩), .pointer (some ⟨sb, 0, none⟩), .bool true] ∧ (∀ k ∈ sb :: lb :: X, w.heap.size ≤ k) ∧ StoLive w' sb lb db X D n head1 vr [] ⟨90, n - 90, 1, 0⟩ [] ∧ D.Ready

set_option maxHeartbeats 4000000 in
set_option maxRecDepth 100000 in
theorem stored_any (n : Nat) (w : World) (h1 : 104 ≤ n) (h2 : n ≤ 130) : Calls Try.prog 62 #[.int .i64 (n : Int)] w (RetV (StoredV w n)) := by
  have HH := Lib.hid (fun (_ : Unit) => And.intro h1 h2)
  have e0 : errV 0 = .nilIface := rfl
  clear h1 h2
  go_enter Try.func62, Try.ntmps62
  go_wp2_with fail
  refine (new_good n w (by have := HH.out (); omega) (HH.out ()).2).mono ?_
  rintro _ w1 ⟨_, rfl, db, X, rfl, hD, hB, hX⟩
  have H1 := Lib.hid (And.intro hB hX)
  have hf := format_any db n X (DM.new n) w1 hD (new_blank n) rfl (HH.out ()).1 (HH.out ()).2
  rw [e0] at hf
  have HF := Lib.hid hf
  clear hB hX hD hf
  go_wp2_with fail
  refine HF.out.mono ?_
  clear HF
  rintro _ w2 ⟨rfl, Y, D', hD', hY, hF, hr, hw, hn, hk⟩
  have ho := open_good (w := w2) hD' (fresh_good n D' (HH.out ()).1 (HH.out ()).2 hn hk hw) hr.1 (by decide)
  have HO := Lib.hid ho
  have H2 := Lib.hid (show Below w.heap.size w w2 ∧ (∀ k ∈ Y, w.heap.size ≤ k) ∧ D'.Ready from
    ⟨H1.out.1.trans (hF.below H1.out.1.size H1.out.2), fun k hk => (hY k hk).elim (H1.out.2 k) (fun g => Nat.le_trans H1.out.1.size g), hr⟩)
  clear ho hD' hY hF hr hw hn hk
  go_wp2_with fail
  refine HO.out.mono ?_
  clear HO
  rintro _ w3 ⟨_, rfl, hB3, sb, lb, vr, rfl, hsb, hlb, hlive⟩
  have H3 := Lib.hid (show StoredV w n (.tuple #[.pointer (some ⟨db, 0, none⟩), .pointer (some ⟨sb, 0, none⟩), .bool true]) w3 from
    ⟨H2.out.1.trans (hB3.mono H2.out.1.size), sb, lb, db, Y, D', vr, rfl, fun k hk => by
      have hs := H2.out.1.size
      rcases List.mem_cons.1 hk with rfl | hk
      · omega
      rcases List.mem_cons.1 hk with rfl | hk
      · omega
      · exact H2.out.2.1 k hk, hlive, H2.out.2.2⟩)
  clear hB3 hsb hlb hlive
  go_wp2_with fail
  go_ret3
  exact RetV.of H3.out

/-! ### a closed fact -/

def oneChg : Chg := ⟨⟨#[107]⟩, ⟨#[120]⟩, false⟩
theorem one_fault : faultOf oneChg = 0 := by
  unfold faultOf oneChg
  rw [if_neg (by simp [ByteArray.toList_eq]), if_neg (by decide)]
theorem one_first : firstFault [oneChg] = 0 := by
  unfold firstFault
  rw [if_pos one_fault]
  rfl
theorem one_rows : applyL [] [oneChg] = [oneChg] := rfl
theorem one_comF : comF 110 [] [oneChg] = 0 := comF_zero (by decide) one_first (by rw [one_rows]; decide) (by decide)
theorem one_comN : comN ⟨90, 20, 1, 0⟩ [oneChg] = 2 := rfl

/-- One change, in a block of its own. -/
theorem one_at {S : Nat → Prop} {w : World} {b : Nat} (hb : w.heap[b]? = some (.cells #[.string ⟨#[107]⟩, .string ⟨#[120]⟩, .bool false] 64 (0, 0))) (hS : S b) : ChgP S w (.slice (some ⟨b, 0, none⟩) 1 1) [oneChg] :=
  ⟨_, _, rfl, by unfold maxLen; decide, fun i c hc => by
    match i, hc with
    | 0, hc =>
      cases hc
      exact ⟨_, _, rfl, hS, by rw [cell_of hb]; rfl, by rw [cell_of hb]; rfl, by rw [cell_of hb]; rfl⟩⟩

/-- A commit on a disk that is ready. -/
theorem ComV.done {w w' : World} {sb lb db : Nat} {X : List Nat} {D : DM} {n : Nat} {H : HM} {r0 : List Chg} {L : LM} {ds : List (List Chg)} {l : List Chg} {v : Value} (h : ComV w sb lb db X D n H r0 L ds l v w') (hu : D.Ready) (h0 : comF n (foldA r0 ds) l = 0) :
    v = errV 0 ∧ ∃ lb' Y D' H' vr' r0' L' ds', StoLive w' sb lb' db Y D' n H' vr' r0' L' ds' ∧ L'.next = comN L l ∧ foldA r0' ds' = applyL (foldA r0 ds) l ∧
      Frame (sb :: lb :: X) w w' ∧ Fresh w (sb :: lb :: X) (sb :: lb' :: Y) ∧ H'.epoch ≤ H.epoch + 1 ∧ H'.first ≤ H.first + (n - 90) ∧ D'.Ready := by
  rcases h with ⟨h1, -⟩ | ⟨-, h1, lb', Y, D', H', vr', r0', L', ds', g1, g2, g3, g4, g5, g6, g7, g8⟩ | ⟨-, -, h1, -⟩
  · exact absurd h0 h1
  · exact ⟨h1, lb', Y, D', H', vr', r0', L', ds', g1, g2, g3, g4, g5, g6, g7, g8 hu⟩
  · exact absurd hu h1

set_option maxHeartbeats 4000000 in
set_option maxRecDepth 100000 in
theorem stores_any (w : World) : Calls Try.prog 53 #[] w (Ret (.bool true) fun w' => Below w.heap.size w w') := by
  have e0 : errV 0 = .nilIface := rfl
  have HST := Lib.hid (stored_any 110 w (by decide) (by decide))
  go_enter Try.func53, Try.ntmps53
  go_wp2_with fail
  refine HST.out.mono ?_
  clear HST
  rintro _ w1 ⟨_, rfl, hB1, sb, lb, db, X, D, vr, rfl, hlo, hlive, hr⟩
  have H1 := Lib.hid (And.intro hB1 (And.intro hlo hr))
  have HL := Lib.hid (hlive.later ((Below.refl _ w1).alloc (Nat.le_refl _) (.cells #[.string ⟨#[107]⟩, .string ⟨#[120]⟩, .bool false] 64)))
  have HBK := Lib.hid (heap_alloc_new w1 (.cells #[.string ⟨#[107]⟩, .string ⟨#[120]⟩, .bool false] 64))
  have hone := one_at (S := fun k => k ∉ sb :: lb :: X) HBK.out (fun hm => by have := hlive.lt _ hm; omega)
  have hc := commit_good HL.out (.slice (some ⟨w1.heap.size, 0, none⟩) 1 1) [oneChg] hone (by decide) (by decide) (by decide)
  have HC := Lib.hid hc
  clear hB1 hlo hlive hone hc
  go_wp2_with fail
  refine HC.out.mono ?_
  clear HC
  rintro _ w2 ⟨v2, rfl, hcv⟩
  obtain ⟨rfl, lb2, Y, D2, H2, vr2, r2, L2, ds2, hl2, hnx, hrw, hF2, hFr2, hep, hft, hup⟩ := hcv.done H1.out.2.2 one_comF
  have hB2 : Below w.heap.size w w2 := (H1.out.1.alloc H1.out.1.size _).trans (hF2.below (by rw [size_alloc]; have := H1.out.1.size; omega) H1.out.2.1)
  have hft2 : H2.first ≤ 21 := hft
  have ho := open_good (w := w2) hl2.d hl2.g hl2.up (by omega)
  have HO := Lib.hid ho
  have HL2 := Lib.hid hl2
  have hm2 := hl2.g.lm
  have hrw2 : foldA r2 ds2 = [oneChg] := hrw.trans one_rows
  have hnx2 : L2.next = 2 := hnx.trans one_comN
  have H2X := Lib.hid (And.intro hB2 (And.intro hrw2 (And.intro hnx2 hm2)))
  clear hcv hl2 hnx hrw hF2 hFr2 hep hft hup hB2 hft2 ho hm2 hrw2 hnx2
  rw [e0]
  go_wp2_with fail
  refine HO.out.mono ?_
  clear HO
  rintro _ w3 ⟨_, rfl, hB3, sb3, lb3, vr3, rfl, hsb3, hlb3, hl3⟩
  have HL3 := Lib.hid (HL2.out.later hB3)
  have hro := srows_any sb3 db lb3 H2 vr3 (foldA r2 ds2) w3 hl3.s hl3.r.at (by rw [H2X.out.2.1]; decide)
  rw [H2X.out.2.1] at hro
  have HRO := Lib.hid hro
  have HB3 := Lib.hid (H2X.out.1.trans (hB3.mono H2X.out.1.size))
  clear hB3 hsb3 hlb3 hl3 hro
  go_wp2_with fail
  refine HRO.out.mono ?_
  clear HRO
  rintro _ w4 ⟨v4, rfl, ho4, -, hB4⟩
  obtain ⟨ao4, cap4, rfl⟩ := owns_form ho4
  simp only [List.length_cons, List.length_nil, Nat.zero_add]
  have HL4 := Lib.hid (HL3.out.later hB4)
  have hrm := sroom_any sb db lb2 H2 vr2 L2 w4 HL4.out.s HL4.out.l (by rw [H2X.out.2.2.2]; decide) (by rw [H2X.out.2.2.1]; decide)
  rw [H2X.out.2.2.1, H2X.out.2.2.2] at hrm
  have HRM := Lib.hid (show Calls Try.prog 59 #[.pointer (some ⟨sb, 0, none⟩)] w4 (Ret (.int .i64 18) fun w' => ∃ n, w' = w4.drewN n) from hrm)
  have HB4 := Lib.hid (HB3.out.trans (hB4.mono HB3.out.size))
  clear hB4 ho4 hrm
  go_wp2_with fail
  refine HRM.out.mono ?_
  rintro _ w5 ⟨rfl, q, rfl⟩
  go_wp2_with fail
  go_ret
  exact Ret.of rfl (below_drewN HB4.out q)

set_option maxHeartbeats 4000000 in
set_option maxRecDepth 100000 in
theorem kept_any (w : World) : Calls Try.prog 61 #[] w (Ret (.bool true) fun w' => Below w.heap.size w w') := by
  have e0 : errV 0 = .nilIface := rfl
  have HST := Lib.hid (stored_any 110 w (by decide) (by decide))
  go_enter Try.func61, Try.ntmps61
  go_wp2_with fail
  refine HST.out.mono ?_
  clear HST
  rintro _ w1 ⟨_, rfl, hB1, sb, lb, db, X, D, vr, rfl, hlo, hlive, hr⟩
  have H1 := Lib.hid (And.intro hB1 (And.intro hlo hr))
  have HL := Lib.hid (hlive.later ((Below.refl _ w1).alloc (Nat.le_refl _) (.cells #[.string ⟨#[107]⟩, .string ⟨#[120]⟩, .bool false] 64)))
  have HBK := Lib.hid (heap_alloc_new w1 (.cells #[.string ⟨#[107]⟩, .string ⟨#[120]⟩, .bool false] 64))
  have hone := one_at (S := fun k => k ∉ sb :: lb :: X) HBK.out (fun hm => by have := hlive.lt _ hm; omega)
  have hc := commit_good HL.out (.slice (some ⟨w1.heap.size, 0, none⟩) 1 1) [oneChg] hone (by decide) (by decide) (by decide)
  have HC := Lib.hid hc
  clear hB1 hlo hlive hone hc
  go_wp2_with fail
  refine HC.out.mono ?_
  clear HC
  rintro _ w2 ⟨v2, rfl, hcv⟩
  obtain ⟨rfl, lb2, Y, D2, H2, vr2, r2, L2, ds2, hl2, hnx, hrw, hF2, hFr2, hep, hft, hup⟩ := hcv.done H1.out.2.2 one_comF
  have hB2 : Below w.heap.size w w2 := (H1.out.1.alloc H1.out.1.size _).trans (hF2.below (by rw [size_alloc]; have := H1.out.1.size; omega) H1.out.2.1)
  have hft2 : H2.first ≤ 21 := hft
  have ho := open_good (w := w2) hl2.d hl2.g hl2.up (by omega)
  have HO := Lib.hid ho
  have HL2 := Lib.hid hl2
  have hm2 := hl2.g.lm
  have hrw2 : foldA r2 ds2 = [oneChg] := hrw.trans one_rows
  have hnx2 : L2.next = 2 := hnx.trans one_comN
  have H2X := Lib.hid (And.intro hB2 (And.intro hrw2 (And.intro hnx2 hm2)))
  clear hcv hl2 hnx hrw hF2 hFr2 hep hft hup hB2 hft2 ho hm2 hrw2 hnx2
  rw [e0]
  go_wp2_with fail
  refine HO.out.mono ?_
  clear HO
  rintro _ w3 ⟨_, rfl, hB3, sb3, lb3, vr3, rfl, hsb3, hlb3, hl3⟩
  have HL3 := Lib.hid (HL2.out.later hB3)
  have hro := srows_any sb3 db lb3 H2 vr3 (foldA r2 ds2) w3 hl3.s hl3.r.at (by rw [H2X.out.2.1]; decide)
  rw [H2X.out.2.1] at hro
  have HRO := Lib.hid hro
  have HB3 := Lib.hid (H2X.out.1.trans (hB3.mono H2X.out.1.size))
  clear hB3 hsb3 hlb3 hl3 hro
  go_wp2_with fail
  refine HRO.out.mono ?_
  clear HRO
  rintro _ w4 ⟨v4, rfl, ho4, -, hB4⟩
  obtain ⟨ao4, cap4, rfl⟩ := owns_form ho4
  simp only [List.length_cons, List.length_nil, Nat.zero_add]
  have HB4 := Lib.hid (HB3.out.trans (hB4.mono HB3.out.size))
  clear hB4 ho4
  go_wp2_with fail
  go_ret
  exact Ret.of rfl HB4.out

end Go.Proofs.Ytkapmpngglibjaa
