/- The law StoreSays, walked. Conditions: the contract's own premises. -/
import Derived.Test.YtkapmpngglibjaaQ32
import Derived.Test.YtkapmpngglibjaaQ13
namespace Go.Proofs.Ytkapmpngglibjaa
open Go Go.RowKit Go.Shelf

theorem blank_pick (n : Nat) (h : 2 ≤ n) : (pickN (DM.new n).now 2).epoch = 0 := by
  have hn : (DM.new n).now = List.replicate n blankT := (new_blank n).now
  have hg : ∀ j, j < 2 → (List.replicate n blankT).getD j ⟨#[]⟩ = blankT := fun j hj => by
    rw [getD_of]
    rw [List.getElem?_replicate, if_pos (by omega)]
  rw [hn, pickN, pickN, hg 0 (by decide), hg 1 (by decide), headOf_blank]
  rfl

/-- Rows stand in no block that is the reference's store. -/
theorem ChgP.ne_ref {S : Nat → Prop} {w : World} {v mr : Value} {l : List Chg} {mb u m : Nat} (h : ChgP S w v l) (hr : RefAt w mb mr u m) (hm : ∃ a b c, mr = .slice a b c) : ChgP (fun k => S k ∧ k ≠ mb) w v l := by
  obtain ⟨ao, cap, rfl, h1, h2⟩ := h
  refine ⟨ao, cap, rfl, h1, fun i c hc => ?_⟩
  obtain ⟨b, off, g1, g2, g3, g4, g5⟩ := h2 i c hc
  refine ⟨b, off, g1, ⟨g2, fun e => ?_⟩, g3, g4, g5⟩
  obtain ⟨a, b', c', rfl⟩ := hm
  rw [e, cell_of hr] at g3
  match hj : off + i * 3, g3 with
  | 0, g3 => simp at g3
  | 1, g3 => simp at g3
  | 2, g3 => simp at g3
  | j + 3, g3 => simp at g3

/-- What is known between two acts. -/
structure SL (w0 w : World) (n k db sb lb mb : Nat) (X : List Nat) (D : DM) (H : HM) (vr : Value) (r0 : List Chg) (L : LM) (ds : List (List Chg)) (mr : Value) : Prop where
  live : StoLive w sb lb db X D n H vr r0 L ds
  lo : ∀ j ∈ sb :: lb :: X, w0.heap.size ≤ j
  below : Below w0.heap.size w0 w
  mlo : w0.heap.size ≤ mb
  mX : mb ∉ sb :: lb :: X
  ref : RefAt w mb mr L.next (n - 90)
  rr : ChgP (fun j => j ∉ sb :: lb :: X) w mr (foldA r0 ds)
  up : D.Ready
  ep : H.epoch ≤ 1 + k
  ft : H.first ≤ 1 + 40 * k

theorem SL.later {w0 w w' : World} {n k db sb lb mb : Nat} {X : List Nat} {D : DM} {H : HM} {vr : Value} {r0 : List Chg} {L : LM} {ds : List (List Chg)} {mr : Value} (h : SL w0 w n k db sb lb mb X D H vr r0 L ds mr) (hb : Below w.heap.size w w') (hs : w0.heap.size ≤ w.heap.size) : SL w0 w' n k db sb lb mb X D H vr r0 L ds mr :=
  ⟨h.live.later hb, h.lo, h.below.trans (hb.mono hs), h.mlo, h.mX, (hb.block _ (lt_of_heap h.ref)).trans h.ref, h.rr.later hb, h.up, h.ep, h.ft⟩
theorem SL.size {w0 w : World} {n k db sb lb mb : Nat} {X : List Nat} {D : DM} {H : HM} {vr : Value} {r0 : List Chg} {L : LM} {ds : List (List Chg)} {mr : Value} (h : SL w0 w n k db sb lb mb X D H vr r0 L ds mr) : w0.heap.size ≤ w.heap.size := h.below.size
theorem SL.next {w0 w : World} {n k db sb lb mb : Nat} {X : List Nat} {D : DM} {H : HM} {vr : Value} {r0 : List Chg} {L : LM} {ds : List (List Chg)} {mr : Value} (h : SL w0 w n k db sb lb mb X D H vr r0 L ds mr) : SL w0 w n (k + 1) db sb lb mb X D H vr r0 L ds mr :=
  ⟨h.live, h.lo, h.below, h.mlo, h.mX, h.ref, h.rr, h.up, by have := h.ep; omega, by have := h.ft; omega⟩

theorem ChgP.slice {S : Nat → Prop} {w : World} {v : Value} {l : List Chg} (h : ChgP S w v l) : ∃ a b c, v = .slice a b c := by
  obtain ⟨ao, cap, rfl, -⟩ := h
  exact ⟨_, _, _, rfl⟩

/-- Only the reference's store has changed. -/
theorem StoLive.other {w w' : World} {sb lb db mb : Nat} {X : List Nat} {D : DM} {n : Nat} {H : HM} {vr mr : Value} {r0 : List Chg} {L : LM} {ds : List (List Chg)} {u m : Nat} (h : StoLive w sb lb db X D n H vr r0 L ds) (hr : RefAt w mb mr u m) (hs : ∃ a b c, mr = .slice a b c) (hf : Frame [mb] w w') (hm : mb ∉ sb :: lb :: X) :
    StoLive w' sb lb db X D n H vr r0 L ds := by
  have h1 : ∀ k ∈ sb :: lb :: X, k ∉ [mb] := fun k hk he => hm (by rw [← List.mem_singleton.1 he]; exact hk)
  exact ⟨h.d.frame hf (fun k hk => h1 k (by simp [hk])), hf.heap h.l (h1 lb (by simp)), hf.heap h.s (h1 sb (by simp)), h.sX, h.lX,
    ((h.r.ne_ref hr hs).frame hf (fun k hk he => hk.2 (List.mem_singleton.1 he))).mono (fun k _ hk => hk.1), h.g, h.up⟩

set_option maxHeartbeats 40000000 in
set_option maxRecDepth 100000 in
theorem storeSays_any (sec : Int) (va : Value) (acts : List (ActM × Value)) (w : World) (ha : ActsAt w va acts) (b1 : -9223372036854775808 ≤ sec ∧ sec ≤ 9223372036854775807) :
    Calls Try.prog 9 #[.int .i64 sec, va] w (Ret (.bool true) fun w' => Below w.heap.size w w') := by
  have HACT := Lib.hid ha
  have HB1 := Lib.hid (fun (_ : Unit) => b1)
  obtain ⟨aa, acap, rfl, ham, hget⟩ := ha.get
  have HGET := Lib.hid hget
  unfold maxLen at ham
  clear ha b1 hget
  obtain ⟨na, hna⟩ : ∃ n, n = acts.length := ⟨_, rfl⟩
  rw [← hna] at ham HACT ⊢
  have HNA := Lib.hid hna
  clear hna
  have HMA := Lib.hid (fun (_ : Unit) => ham)
  have na0 : (0 : Int) ≤ (na : Int) := by omega
  clear ham
  cases hlight : lightActs acts 40
  case false =>
    go_enter Try.func9, Try.ntmps9
    go_wp2_with fail
    refine (stores_any w).mono ?_
    rintro e w1 ⟨rfl, hB1⟩
    go_wp2_with fail
    have hla := lightActs_any _ acts 40 w1 (HACT.out.below hB1)
    rw [hlight] at hla
    refine hla.mono ?_
    rintro e w2 ⟨rfl, rfl⟩
    clear hla hlight
    go_wp2_with fail
    go_ret
    exact Ret.of rfl hB1
  have hna40 : na ≤ 40 := by
    rw [HNA.out]
    rw [lightActs, Bool.and_eq_true, decide_eq_true_eq] at hlight
    omega
  have na1 : (na : Int) ≤ 40 := by omega
  have HLT := Lib.hid (fun (_ : Unit) => hlight)
  go_enter Try.func9, Try.ntmps9
  go_wp2_with fail
  refine (stores_any w).mono ?_
  rintro e w1 ⟨rfl, hB1⟩
  go_wp2_with fail
  have hla := lightActs_any _ acts 40 w1 (HACT.out.below hB1)
  rw [hlight] at hla
  refine hla.mono ?_
  rintro e w2 ⟨rfl, rfl⟩
  have HBW := Lib.hid hB1
  clear hla hlight hB1
  go_wp2_with fail
  by_cases q1 : sec < 1 ∨ 130 < sec
  · have hnb := new_bad sec w1 q1
    have e1 : errV 1 = .iface 101 (.int .i64 1) := rfl
    rcases q1 with q1 | q1
    · have q1' := eq_true q1
      refine hnb.mono ?_
      rintro _ w2 ⟨rfl, rfl⟩
      rw [e1]
      go_wp2_with fail
      refine (same_any 1 1 w1).mono ?_
      rintro _ w3 ⟨rfl, rfl⟩
      go_wp2_with fail
      go_ret
      exact Ret.of rfl HBW.out
    · have q1' := eq_true q1
      have q0 : (sec < 1) = False := eq_false (by omega)
      refine hnb.mono ?_
      rintro _ w2 ⟨rfl, rfl⟩
      rw [e1]
      go_wp2_with fail
      refine (same_any 1 1 w1).mono ?_
      rintro _ w3 ⟨rfl, rfl⟩
      go_wp2_with fail
      go_ret
      exact Ret.of rfl HBW.out
  have q2 : 1 ≤ sec := by omega
  have q3 : sec ≤ 130 := by omega
  clear q1
  obtain ⟨n, rfl⟩ := Int.eq_ofNat_of_zero_le (show 0 ≤ sec by omega)
  have hn1 : 1 ≤ n := by omega
  have hn2 : n ≤ 130 := by omega
  refine (new_good n w1 hn1 hn2).mono ?_
  rintro _ w2 ⟨_, rfl, db, X, rfl, hD, hB, hX⟩
  have H2 := Lib.hid (And.intro hD (show Below w.heap.size w w2 ∧ ∀ k ∈ X, w.heap.size ≤ k from ⟨HBW.out.trans (hB.mono HBW.out.size), fun k hk => Nat.le_trans HBW.out.size (hX k hk)⟩))
  clear hD hB hX
  by_cases hsm : n < 104
  · have hsm' : (n : Int) < 104 := by omega
    go_wp2_with fail
    refine (sopen_small db X (DM.new n) w2 H2.out.1 rfl (by rw [(new_blank n).now, List.length_replicate]; exact hsm)).mono ?_
    rintro _ w3 ⟨rfl, rfl⟩
    have e4 : errV 4 = .iface 101 (.int .i64 4) := rfl
    rw [e4]
    go_wp2_with fail
    refine (same_any 4 4 w2).mono ?_
    rintro _ w4 ⟨rfl, rfl⟩
    go_wp2_with fail
    refine (format_small db X (DM.new n) w2 H2.out.1 (by rw [(new_blank n).now, List.length_replicate]; exact hsm)).mono ?_
    rintro _ w5 ⟨rfl, rfl⟩
    have e9 : errV 9 = .iface 101 (.int .i64 9) := rfl
    rw [e9]
    go_wp2_with fail
    refine (same_any 9 9 w2).mono ?_
    rintro _ w6 ⟨rfl, rfl⟩
    go_wp2_with fail
    go_ret
    exact Ret.of rfl H2.out.2.1
  have hbg : 104 ≤ n := by omega
  have hbg' : (104 : Int) ≤ (n : Int) := by omega
  have hbn : ((n : Int) < 104) = False := eq_false (by omega)
  clear hsm
  have HN := Lib.hid (fun (_ : Unit) => And.intro hbg hn2)
  have hop := sopen_any db X (DM.new n) [] w2 H2.out.1 (by rw [(new_blank n).now, List.length_replicate]; exact hbg) (by
    rw [(new_blank n).now]
    intro s hs
    obtain ⟨-, rfl⟩ := List.mem_replicate.1 hs
    exact blankT_size) rfl (fun h => absurd (blank_pick n (by omega)) h)
  have HOP := Lib.hid hop
  clear hop
  go_wp2_with fail
  refine HOP.out.mono ?_
  clear HOP
  rintro _ w3 ⟨v3, rfl, hB3, ho3⟩
  obtain rfl : v3 = .tuple #[.pointer none, errV 4] := by
    rcases ho3 with ⟨-, h⟩ | ⟨h, -⟩
    · exact h
    · exact absurd (blank_pick n (by have := HN.out (); omega)) h
  have e4 : errV 4 = .iface 101 (.int .i64 4) := rfl
  rw [e4]
  have H3 := Lib.hid (show DiskAt w3 107 111 db X (DM.new n) ∧ Below w.heap.size w w3 ∧ ∀ k ∈ X, w.heap.size ≤ k from ⟨H2.out.1.frame (Frame.of_below [] hB3) (by simp), H2.out.2.1.trans (hB3.mono H2.out.2.1.size), H2.out.2.2⟩)
  clear hB3 ho3 H2 e4
  go_wp2_with fail
  refine (same_any 4 4 w3).mono ?_
  rintro _ w4 ⟨rfl, rfl⟩
  have hf := format_any db n X (DM.new n) w3 H3.out.1 (new_blank n) rfl (HN.out ()).1 (HN.out ()).2
  rw [show errV 0 = .nilIface from rfl] at hf
  have HF := Lib.hid hf
  clear hf
  go_wp2_with fail
  refine HF.out.mono ?_
  clear HF
  rintro _ w5 ⟨rfl, Y, D5, hD5, hY5, hF5, hr5, hw5, hn5, hk5⟩
  have ho := open_good (w := w5) hD5 (fresh_good n D5 (HN.out ()).1 (HN.out ()).2 hn5 hk5 hw5) hr5.1 (by decide)
  have HO := Lib.hid ho
  have H5 := Lib.hid (show Below w.heap.size w w5 ∧ (∀ k ∈ Y, w.heap.size ≤ k) ∧ D5.Ready from
    ⟨H3.out.2.1.trans (hF5.below H3.out.2.1.size H3.out.2.2), fun k hk => (hY5 k hk).elim (H3.out.2.2 k) (fun g => Nat.le_trans H3.out.2.1.size g), hr5⟩)
  clear ho hD5 hY5 hF5 hr5 hw5 hn5 hk5 H3
  go_wp2_with fail
  refine HO.out.mono ?_
  clear HO
  rintro _ w6 ⟨_, rfl, hB6, sb, lb, vr, rfl, hsb, hlb, hlive⟩
  have hsub : IntKind.i64.wrap ((n : Int) - 90) = ((n - 90 : Nat) : Int) := by
    rw [show (n : Int) - 90 = ((n - 90 : Nat) : Int) by omega]
    exact IntWalk.i64_in _ (by omega)
  have HS0 := Lib.hid (show SL w (w6.alloc (.cells #[.slice none 0 0, .int .i64 0, .int .i64 ((n - 90 : Nat) : Int)] 96)) n 0 db sb lb w6.heap.size Y D5 head1 vr [] ⟨90, n - 90, 1, 0⟩ [] (.slice none 0 0) from by
    have hs := H5.out.1.size
    have hal := (Below.refl w6.heap.size w6).alloc (Nat.le_refl _) (.cells #[.slice none 0 0, .int .i64 0, .int .i64 ((n - 90 : Nat) : Int)] 96)
    have hbw := H5.out.1.trans (hB6.mono hs)
    exact ⟨hlive.later hal, fun k hk => by
      rcases List.mem_cons.1 hk with rfl | hk
      · omega
      rcases List.mem_cons.1 hk with rfl | hk
      · omega
      · exact H5.out.2.1 k hk, hbw.trans (hal.mono hbw.size), hbw.size, fun hm => by have := hlive.lt _ hm; omega, heap_alloc_new _ _, ⟨none, 0, rfl, by unfold maxLen; decide, fun i c hc => by simp [foldA] at hc⟩, H5.out.2.2, Nat.le_refl _, Nat.le_refl _⟩)
  obtain ⟨n90, hn90⟩ : ∃ n90, n90 = n - 90 := ⟨_, rfl⟩
  rw [← hn90] at hsub HS0
  have HN90 := Lib.hid (fun (_ : Unit) => hn90)
  clear hB6 hsb hlb hlive hn90 H5
  go_wp2_with fail
  generalize w6.alloc (.cells #[.slice none 0 0, .int .i64 0, .int .i64 (n90 : Int)] 96) = w7 at *
  generalize w6.heap.size = mb at *
  go_loopw [9, 12] (fun s i wr => ∃ (m sb lb : Nat) (X : List Nat) (D : DM) (H : HM) (vr : Value) (r0 : List Chg) (L : LM) (ds : List (List Chg)) (mr : Value), m ≤ na ∧ s = .pointer (some ⟨sb, 0, none⟩) ∧ i = .int .i64 (m : Int) ∧ Hid (SL w wr n m db sb lb mb X D H vr r0 L ds mr)) (fun _ i _ => na - (intOf i).toNat)
  case atStart => exact ⟨0, sb, lb, Y, D5, head1, vr, [], _, [], _, Nat.zero_le _, rfl, rfl, HS0⟩
  case round =>
    clear HS0
    obtain ⟨m, sb, lb, X, D, H, vr, r0, L, ds, mr, hm, rfl, rfl, HS⟩ := hrel
    have m0 : (0 : Int) ≤ (m : Int) := by omega
    by_cases hmn : m = na
    · subst hmn
      go_wp2_with fail
      go_ret
      exact Ret.of rfl HS.out.below
    have m2 : (m : Int) < (na : Int) := by omega
    obtain ⟨x, hx⟩ : ∃ x, acts[m]? = some x := ⟨_, List.getElem?_eq_getElem (by rw [← HNA.out]; omega)⟩
    obtain ⟨ba, off, xo, xn, xc, rfl, hx2, hxn1, hxn2, hxk, hcells⟩ := HGET.out m x hx
    obtain ⟨c0, c1, c2, c3, c4, c5⟩ := hcells wr HS.out.below
    have hmem := List.mem_of_getElem? hx
    have hchg := HACT.out.changes x hmem
    have hd16 : x.1.changes.length ≤ 16 := by
      have h := HLT.out ()
      rw [lightActs, Bool.and_eq_true, List.all_eq_true] at h
      have h2 := h.2 x hmem
      rw [lightAct, Bool.and_eq_true, lightChanges, Bool.and_eq_true, decide_eq_true_eq] at h2
      have := h2.2
      rw [Bool.and_eq_true, decide_eq_true_eq] at this
      omega
    obtain ⟨⟨kind, xs, xt, an, ak, d⟩, xv⟩ := x
    simp only at hx2 c0 c1 c2 c3 c4 c5 hchg hd16
    subst hx2
    obtain rfl : xn = d.length := by
      obtain ⟨ao', cap', he, -⟩ := hchg.form
      cases he
      rfl
    have HV := Lib.hid (show ChgP (fun k => k ∉ sb :: lb :: X ∧ k ≠ mb) wr (.slice xo d.length xc) d from ((ChgP.of_at hchg).mono (S' := fun k => k ∉ sb :: lb :: X ∧ k ≠ mb) (fun k' hk' _ => ⟨fun hm' => by have := HS.out.lo k' hm'; omega, fun e => by have := HS.out.mlo; omega⟩)).later HS.out.below)
    obtain ⟨nd, hnd⟩ : ∃ nd, nd = d.length := ⟨_, rfl⟩
    rw [← hnd] at HV hd16 c5
    have HND := Lib.hid hnd
    have d0 : (0 : Int) ≤ (nd : Int) := by omega
    have d1 : (nd : Int) ≤ 16 := by omega
    have HSA := Lib.hid (HS.out.later ((Below.refl _ wr).alloc (Nat.le_refl _) (.cells #[.string kind, .string xs, .string xt, .int .i64 an, .int .u64 (ak : Int), .slice xo nd xc] 38)) HS.out.size)
    have HVA := Lib.hid (HV.out.later ((Below.refl _ wr).alloc (Nat.le_refl _) (.cells #[.string kind, .string xs, .string xt, .int .i64 an, .int .u64 (ak : Int), .slice xo nd xc] 38)))
    have HBLK := Lib.hid (heap_alloc_new wr (.cells #[.string kind, .string xs, .string xt, .int .i64 an, .int .u64 (ak : Int), .slice xo nd xc] 38))
    have HBX := Lib.hid (show wr.heap.size ∉ sb :: lb :: X ∧ wr.heap.size ≠ mb from ⟨fun hm => by have := HS.out.live.lt _ hm; omega, fun e => by have := lt_of_heap HS.out.ref; omega⟩)
    have HM40 := Lib.hid (fun (_ : Unit) => show m < 40 by omega)
    clear hx hcells hmem hchg hnd hxn1 hxn2 hxk HS HV
    by_cases hk1 : (kind.toList == [99, 111, 109, 109, 105, 116]) = true
    case neg =>
      rw [Bool.not_eq_true] at hk1
      by_cases hk2 : (kind.toList == [115, 97, 118, 101]) = true
      case neg =>
        rw [Bool.not_eq_true] at hk2
        go_wp2_with fail
        generalize wr.alloc (.cells #[.string kind, .string xs, .string xt, .int .i64 an, .int .u64 (ak : Int), .slice xo nd xc] 38) = wA at *
        generalize wr.heap.size = bA at *
        clear c0 c1 c2 c3 c4 c5
        have ho := open_good (w := wA) HSA.out.live.d HSA.out.live.g HSA.out.live.up (by have := HSA.out.ft; have := HM40.out (); omega)
        have HO := Lib.hid ho
        clear ho
        refine HO.out.mono ?_
        clear HO
        rintro _ w8 ⟨_, rfl, hB8, sb8, lb8, vr8, rfl, hsb8, hlb8, hl8⟩
        have HS8 := Lib.hid (show SL w w8 n (m + 1) db sb8 lb8 mb X D H vr8 r0 L ds mr from by
          have h := HSA.out.later hB8 HSA.out.size
          have hs := HSA.out.size
          have hml := lt_of_heap HSA.out.ref
          refine ⟨hl8, fun k hk => ?_, h.below, h.mlo, fun hm => ?_, h.ref, (HSA.out.rr.go (A := sb :: lb :: X) (B := sb8 :: lb8 :: X) (Frame.of_below _ hB8) (fun k hk => ?_)), h.up, h.next.ep, h.next.ft⟩
          · rcases List.mem_cons.1 hk with rfl | hk
            · omega
            rcases List.mem_cons.1 hk with rfl | hk
            · omega
            · exact HSA.out.lo k (by simp [hk])
          · rcases List.mem_cons.1 hm with rfl | hm
            · omega
            rcases List.mem_cons.1 hm with rfl | hm
            · omega
            · exact HSA.out.mX (by simp [hm])
          · rcases List.mem_cons.1 hk with rfl | hk
            · exact .inr hsb8
            rcases List.mem_cons.1 hk with rfl | hk
            · exact .inr hlb8
            · exact .inl (by simp [hk]))
        clear hB8 hsb8 hlb8 hl8 HSA HVA
        go_wp2_with fail
        obtain ⟨nx, hnx⟩ : ∃ nx, nx = L.next := ⟨_, rfl⟩
        have hnm : L.many = n90 := (HS8.out.live.g.lm).trans (HN90.out ()).symm
        have hnl : nx ≤ n90 := by rw [hnx, ← hnm]; exact HS8.out.live.g.g.of_.next_le
        have hn40 : n90 ≤ 40 := by have := HN90.out (); have := HN.out (); omega
        have HRM := Lib.hid (fun w' (hb : Below w8.heap.size w8 w') => show Calls Try.prog 59 #[.pointer (some ⟨sb8, 0, none⟩)] w' (Ret (.int .i64 ((n90 : Int) - (nx : Int))) fun w'' => ∃ n, w'' = w'.drewN n) from by
          have h := sroom_any sb8 db lb8 H vr8 L w' (HS8.out.live.later hb).s (HS8.out.live.later hb).l (by omega) (by omega)
          rw [hnm, ← hnx] at h
          exact h)
        have HRO := Lib.hid (fun w' (hb : Below w8.heap.size w8 w') => srows_any sb8 db lb8 H vr8 (foldA r0 ds) w' (HS8.out.live.later hb).s (HS8.out.live.later hb).r.at (by have := HS8.out.live.g.rows.most; omega))
        have HRF := Lib.hid (fun w' (hb : Below w8.heap.size w8 w') => show RefAt w' mb mr nx n90 from by
          have h := (hb.block _ (lt_of_heap HS8.out.ref)).trans HS8.out.ref
          rw [← hnx, ← HN90.out ()] at h
          exact h)
        have hsub : IntKind.i64.wrap ((n90 : Int) - (nx : Int)) = (n90 : Int) - (nx : Int) := IntWalk.i64_in _ (by omega)
        clear hnx hnm
        refine wp_region_plan (fun w5 => Below w8.heap.size w8 w5) 147 [([0, 2, 6, 3, 7, 4, 8, 5, 9, 10], [1], true), ([11, 12, 13, 15, 16, 17, 18], [14], true), ([], [19], false), ([20, 21], [], false)] (by kernel_rfl) (by kernel_rfl) ?_
        apply wpStages_keep
        case hT => exact (Below.refl _ _).drew
        case hn => exact Nat.le_refl _
        case hq =>
          intro w5 hT
          obtain ⟨r0', r1', r2'⟩ := (HRF.out w5 hT).cells
          clear hT
          simp only [picked, List.filterMap_cons, List.filterMap_nil, List.getElem?_cons_zero, List.getElem?_cons_succ]
          repeat still_step
          exact wpStill_nil rfl
        simp only [picked, List.filterMap_cons, List.filterMap_nil, List.getElem?_cons_zero, List.getElem?_cons_succ]
        go_wp2_with fail
        refine (HRM.out _ (Below.refl _ _).drew).mono ?_
        clear HRM
        rintro _ w9 ⟨rfl, q, rfl⟩
        have HBQ := Lib.hid (below_drewN ((Below.refl w8.heap.size w8).drew) q)
        generalize w8.drew.drewN q = w9 at *
        go_wp2_with fail
        refine OnlyNormal.mk ⟨HBQ.out, ?_⟩
        apply wpStages_keep
        case hT => exact HBQ.out
        case hn => exact Nat.le_refl _
        case hq =>
          intro w5 hT
          obtain ⟨r0', r1', r2'⟩ := (HRF.out w5 hT).cells
          clear hT
          simp only [picked, List.filterMap_cons, List.filterMap_nil, List.getElem?_cons_zero, List.getElem?_cons_succ]
          still_step
          still_step
          with_reducible refine wpStill_want ?hw (fun K hK => ?_)
          case hw => kernel_rfl
          (go_simp; refine hK _ ?_; clear hK K)
          with_reducible refine wpStill_want ?hw (fun K hK => ?_)
          case hw => kernel_rfl
          (go_simp; refine hK _ ?_; clear hK K)
          with_reducible refine wpStill_want ?hw (fun K hK => ?_)
          case hw => kernel_rfl
          (go_simp; refine hK _ ?_; clear hK K)
          with_reducible refine wpStill_want ?hw (fun K hK => ?_)
          case hw => kernel_rfl
          (go_simp; refine hK _ ?_; clear hK K)
          with_reducible refine wpStill_want ?hw (fun K hK => ?_)
          case hw => kernel_rfl
          (go_simp; refine hK _ ?_; clear hK K)
          exact wpStill_nil rfl
        simp only [picked, List.filterMap_cons, List.filterMap_nil, List.getElem?_cons_zero, List.getElem?_cons_succ]
        go_wp2_with fail
        refine (HRO.out w9 HBQ.out).mono ?_
        clear HRO
        rintro _ w10 ⟨v10, rfl, ho10, -, hB10⟩
        have HB10 := Lib.hid (HBQ.out.trans (hB10.mono HBQ.out.size))
        have hsm := same_changes v10 mr (foldA r0 ds) (foldA r0 ds) w10 ho10.at (HS8.out.rr.later HB10.out).at (by have := HS8.out.live.g.rows.most; omega)
        rw [(sameL_eq _ _).2 rfl] at hsm
        have HSM := Lib.hid hsm
        clear hsm ho10 hB10
        go_wp2_with fail
        refine OnlyNormal.mk ⟨HB10.out, ?_⟩
        apply wpStages_seq
        simp only [picked, List.filterMap_cons, List.filterMap_nil, List.getElem?_cons_zero, List.getElem?_cons_succ]
        go_wp2_with fail
        refine HSM.out.mono ?_
        clear HSM
        rintro _ w11 ⟨rfl, hB11⟩
        have HS11 := Lib.hid (HS8.out.later (HB10.out.trans (hB11.mono HB10.out.size)) HS8.out.size)
        have HB11 := Lib.hid (HB10.out.trans (hB11.mono HB10.out.size))
        clear hB11
        go_wp2_with fail
        refine OnlyNormal.mk ?_
        apply wpStages_last
        case hT => exact HB11.out
        case hn => exact Nat.le_refl _
        case hq =>
          intro w5 hT
          simp only [picked, List.filterMap_cons, List.filterMap_nil, List.getElem?_cons_zero, List.getElem?_cons_succ]
          with_reducible refine wpStill_want ?hw (fun K hK => ?_)
          case hw => kernel_rfl
          (go_simp; refine hK _ ?_; clear hK K)
          still_step
          exact wpStill_nil rfl
        simp only [picked, List.filterMap_nil]
        refine wpList_nil (OnlyNormal.mk ?_)
        go_wp2_with fail
        exact ⟨⟨m + 1, sb8, lb8, X, D, H, vr8, r0, L, ds, mr, by omega, rfl, by go_num, HS11⟩, by simp [intOf]; omega⟩
      go_wp2_with fail
      generalize wr.alloc (.cells #[.string kind, .string xs, .string xt, .int .i64 an, .int .u64 (ak : Int), .slice xo nd xc] 38) = wA at *
      generalize wr.heap.size = bA at *
      clear c0 c1 c2 c3 c4 c5
      have hc := ck_good HSA.out.live (by have := HSA.out.ep; have := HM40.out (); omega) (by have := HSA.out.ft; have := HM40.out (); omega)
      have HC := Lib.hid hc
      clear hc
      refine HC.out.mono ?_
      clear HC
      rintro _ w8 ⟨v8, rfl, hck⟩
      rcases hck with ⟨rfl, lb8, Y8, D8, H8, hl8, hF8, hFr8, hep8, hft8, hup8⟩ | ⟨-, hnr, -⟩
      case inr => exact absurd HSA.out.up hnr
      have e0 : errV 0 = .nilIface := rfl
      rw [e0]
      clear e0
      have hmX := HSA.out.mX
      have hms : mb < wA.heap.size := lt_of_heap HSA.out.ref
      have hm8 : mb ∉ sb :: lb8 :: Y8 := fun hm => (hFr8 mb hm).elim hmX (fun g => by omega)
      have hrf8 : RefAt w8 mb mr L.next n90 := by
        have h := hF8.heap HSA.out.ref hmX
        rw [← HN90.out ()] at h
        exact h
      have hrr8 := HSA.out.rr.go hF8 hFr8
      have hfs : Frame [mb] w8 (w8.setCell ⟨mb, 1, none⟩ (.int .i64 0)) := (Frame.refl [mb] w8).set (p := ⟨mb, 1, none⟩) (.inl (by simp)) _
      have HS8 := Lib.hid (show SL w (w8.setCell ⟨mb, 1, none⟩ (.int .i64 0)) n (m + 1) db sb lb8 mb Y8 D8 H8 vr (foldA r0 ds) ⟨90, n - 90, H8.first, 0⟩ [] mr from by
        have hs := HSA.out.size
        have hlo8 : ∀ k ∈ sb :: lb8 :: Y8, w.heap.size ≤ k := fun k hk => (hFr8 k hk).elim (HSA.out.lo k) (fun g => by omega)
        refine ⟨hl8.other hrf8 HSA.out.rr.slice hfs hm8, hlo8, (HSA.out.below.trans (hF8.below hs HSA.out.lo)).trans (hfs.below (Nat.le_trans hs hF8.size) (fun k hk => by rw [List.mem_singleton.1 hk]; exact HSA.out.mlo)), HSA.out.mlo, hm8, ?_,
          ((hrr8.ne_ref hrf8 HSA.out.rr.slice).frame hfs (fun k hk he => hk.2 (List.mem_singleton.1 he))).mono (fun k _ hk => hk.1), hup8 HSA.out.up, by have := HSA.out.ep; omega, by have := HSA.out.ft; have := HN.out (); omega⟩
        have h := heap_set_same 1 (.int .i64 0) hrf8
        rw [HN90.out ()] at h
        exact h)
      have z8 := frozen_of hrf8
      obtain ⟨x0, x1, x2⟩ := hrf8.cells
      clear hl8 hF8 hFr8 hep8 hft8 hup8 hmX hms hm8 hrf8 hrr8 hfs HSA HVA
      go_wp2_with fail
      clear x0 x1 x2 z8
      generalize w8.setCell ⟨mb, 1, none⟩ (.int .i64 0) = w8 at *
      obtain ⟨nx, hnx⟩ : ∃ nx, nx = (⟨90, n - 90, H8.first, 0⟩ : LM).next := ⟨_, rfl⟩
      have hnm : (⟨90, n - 90, H8.first, 0⟩ : LM).many = n90 := (HS8.out.live.g.lm).trans (HN90.out ()).symm
      have hnl : nx ≤ n90 := by rw [hnx, ← hnm]; exact HS8.out.live.g.g.of_.next_le
      have hn40 : n90 ≤ 40 := by have := HN90.out (); have := HN.out (); omega
      have HRM := Lib.hid (fun w' (hb : Below w8.heap.size w8 w') => show Calls Try.prog 59 #[.pointer (some ⟨sb, 0, none⟩)] w' (Ret (.int .i64 ((n90 : Int) - (nx : Int))) fun w'' => ∃ n, w'' = w'.drewN n) from by
        have h := sroom_any sb db lb8 H8 vr (⟨90, n - 90, H8.first, 0⟩ : LM) w' (HS8.out.live.later hb).s (HS8.out.live.later hb).l (by omega) (by omega)
        rw [hnm, ← hnx] at h
        exact h)
      have HRO := Lib.hid (fun w' (hb : Below w8.heap.size w8 w') => srows_any sb db lb8 H8 vr (foldA (foldA r0 ds) ([] : List (List Chg))) w' (HS8.out.live.later hb).s (HS8.out.live.later hb).r.at (by have := HS8.out.live.g.rows.most; omega))
      have HRF := Lib.hid (fun w' (hb : Below w8.heap.size w8 w') => show RefAt w' mb mr nx n90 from by
        have h := (hb.block _ (lt_of_heap HS8.out.ref)).trans HS8.out.ref
        rw [← hnx, ← HN90.out ()] at h
        exact h)
      have hsub : IntKind.i64.wrap ((n90 : Int) - (nx : Int)) = (n90 : Int) - (nx : Int) := IntWalk.i64_in _ (by omega)
      clear hnx hnm
      refine wp_region_plan (fun w5 => Below w8.heap.size w8 w5) 147 [([0, 2, 6, 3, 7, 4, 8, 5, 9, 10], [1], true), ([11, 12, 13, 15, 16, 17, 18], [14], true), ([], [19], false), ([20, 21], [], false)] (by kernel_rfl) (by kernel_rfl) ?_
      apply wpStages_keep
      case hT => exact (Below.refl _ _).drew
      case hn => exact Nat.le_refl _
      case hq =>
        intro w5 hT
        obtain ⟨r0', r1', r2'⟩ := (HRF.out w5 hT).cells
        clear hT
        simp only [picked, List.filterMap_cons, List.filterMap_nil, List.getElem?_cons_zero, List.getElem?_cons_succ]
        repeat still_step
        exact wpStill_nil rfl
      simp only [picked, List.filterMap_cons, List.filterMap_nil, List.getElem?_cons_zero, List.getElem?_cons_succ]
      go_wp2_with fail
      refine (HRM.out _ (Below.refl _ _).drew).mono ?_
      clear HRM
      rintro _ w9 ⟨rfl, q, rfl⟩
      have HBQ := Lib.hid (below_drewN ((Below.refl w8.heap.size w8).drew) q)
      generalize w8.drew.drewN q = w9 at *
      go_wp2_with fail
      refine OnlyNormal.mk ⟨HBQ.out, ?_⟩
      apply wpStages_keep
      case hT => exact HBQ.out
      case hn => exact Nat.le_refl _
      case hq =>
        intro w5 hT
        obtain ⟨r0', r1', r2'⟩ := (HRF.out w5 hT).cells
        clear hT
        simp only [picked, List.filterMap_cons, List.filterMap_nil, List.getElem?_cons_zero, List.getElem?_cons_succ]
        still_step
        still_step
        with_reducible refine wpStill_want ?hw (fun K hK => ?_)
        case hw => kernel_rfl
        (go_simp; refine hK _ ?_; clear hK K)
        with_reducible refine wpStill_want ?hw (fun K hK => ?_)
        case hw => kernel_rfl
        (go_simp; refine hK _ ?_; clear hK K)
        with_reducible refine wpStill_want ?hw (fun K hK => ?_)
        case hw => kernel_rfl
        (go_simp; refine hK _ ?_; clear hK K)
        with_reducible refine wpStill_want ?hw (fun K hK => ?_)
        case hw => kernel_rfl
        (go_simp; refine hK _ ?_; clear hK K)
        with_reducible refine wpStill_want ?hw (fun K hK => ?_)
        case hw => kernel_rfl
        (go_simp; refine hK _ ?_; clear hK K)
        exact wpStill_nil rfl
      simp only [picked, List.filterMap_cons, List.filterMap_nil, List.getElem?_cons_zero, List.getElem?_cons_succ]
      go_wp2_with fail
      refine (HRO.out w9 HBQ.out).mono ?_
      clear HRO
      rintro _ w10 ⟨v10, rfl, ho10, -, hB10⟩
      have HB10 := Lib.hid (HBQ.out.trans (hB10.mono HBQ.out.size))
      have hsm := same_changes v10 mr (foldA (foldA r0 ds) ([] : List (List Chg))) (foldA (foldA r0 ds) ([] : List (List Chg))) w10 ho10.at (HS8.out.rr.later HB10.out).at (by have := HS8.out.live.g.rows.most; omega)
      rw [(sameL_eq _ _).2 rfl] at hsm
      have HSM := Lib.hid hsm
      clear hsm ho10 hB10
      go_wp2_with fail
      refine OnlyNormal.mk ⟨HB10.out, ?_⟩
      apply wpStages_seq
      simp only [picked, List.filterMap_cons, List.filterMap_nil, List.getElem?_cons_zero, List.getElem?_cons_succ]
      go_wp2_with fail
      refine HSM.out.mono ?_
      clear HSM
      rintro _ w11 ⟨rfl, hB11⟩
      have HS11 := Lib.hid (HS8.out.later (HB10.out.trans (hB11.mono HB10.out.size)) HS8.out.size)
      have HB11 := Lib.hid (HB10.out.trans (hB11.mono HB10.out.size))
      clear hB11
      go_wp2_with fail
      refine OnlyNormal.mk ?_
      apply wpStages_last
      case hT => exact HB11.out
      case hn => exact Nat.le_refl _
      case hq =>
        intro w5 hT
        simp only [picked, List.filterMap_cons, List.filterMap_nil, List.getElem?_cons_zero, List.getElem?_cons_succ]
        with_reducible refine wpStill_want ?hw (fun K hK => ?_)
        case hw => kernel_rfl
        (go_simp; refine hK _ ?_; clear hK K)
        still_step
        exact wpStill_nil rfl
      simp only [picked, List.filterMap_nil]
      refine wpList_nil (OnlyNormal.mk ?_)
      go_wp2_with fail
      exact ⟨⟨m + 1, sb, lb8, Y8, D8, H8, vr, (foldA r0 ds), (⟨90, n - 90, H8.first, 0⟩ : LM), ([] : List (List Chg)), mr, by omega, rfl, by go_num, HS11⟩, by simp [intOf]; omega⟩
    go_wp2_with fail
    generalize wr.alloc (.cells #[.string kind, .string xs, .string xt, .int .i64 an, .int .u64 (ak : Int), .slice xo nd xc] 38) = wA at *
    generalize wr.heap.size = bA at *
    clear c0 c1 c2 c3 c4 c5
    have hT0 : wA.heap[bA]? = some (.cells #[.string kind, .string xs, .string xt, .int .i64 an, .int .u64 (ak : Int), .slice xo nd xc] 38 (0, 0)) := HBLK.out
    refine wp_region_plan (fun w5 => w5.heap[bA]? = some (.cells #[.string kind, .string xs, .string xt, .int .i64 an, .int .u64 (ak : Int), .slice xo nd xc] 38 (0, 0))) 147 [([0, 1, 4, 5, 2, 6], [3], true), ([], [7, 8], false), ([9], [], false)] (by kernel_rfl) (by kernel_rfl) ?_
    apply wpStages_keep
    case hT => exact hT0
    case hn => exact Nat.le_refl _
    case hq =>
      intro w5 hT
      have l5 := cell_of hT 5
      simp only [List.getElem?_toArray, List.getElem?_cons_zero, List.getElem?_cons_succ] at l5
      clear hT
      simp only [picked, List.filterMap_cons, List.filterMap_nil, List.getElem?_cons_zero, List.getElem?_cons_succ]
      repeat still_step
      exact wpStill_nil rfl
    simp only [picked, List.filterMap_cons, List.filterMap_nil, List.getElem?_cons_zero, List.getElem?_cons_succ]
    clear hT0
    have HLD := Lib.hid (show StoLive wA.drew sb lb db X D n H vr r0 L ds from HSA.out.live.later (Below.refl _ _).drew)
    have hc := commit_good HLD.out (.slice xo nd xc) d ((HVA.out.mono (fun k _ hk => hk.1)).later (Below.refl wA.heap.size wA).drew) (by have := HND.out; omega) (by have := HSA.out.ep; have := HM40.out (); omega) (by have := HSA.out.ft; have := HM40.out (); omega)
    have HC := Lib.hid hc
    clear hc
    go_wp2_with fail
    refine HC.out.mono ?_
    clear HC
    rintro _ w8 ⟨v8, rfl, hcv⟩
    rcases hcv with ⟨hf0, rfl, hB8⟩ | ⟨hf0, rfl, lb8, Y8, D8, H8, vr8, r8, L8, ds8, hl8, hnx8, hrw8, hF8, hFr8, hep8, hft8, hup8⟩ | ⟨-, -, hnr, -⟩
    case inr.inr => exact absurd HSA.out.up hnr
    · have hrf := HN.out ()
      have hr9 := HN90.out ()
      have HS8 := Lib.hid (HSA.out.later ((Below.refl wA.heap.size wA).drew.trans hB8) HSA.out.size)
      have HT8 := Lib.hid ((hB8.block _ (lt_of_heap HBLK.out)).trans HBLK.out)
      have hrc := rcommit_any mb mr (.slice xo nd xc) (foldA r0 ds) d L.next n90 w8 (by have h := HS8.out.ref; rw [← HN90.out ()] at h; exact h) HS8.out.rr.at (HVA.out.later ((Below.refl wA.heap.size wA).drew.trans hB8)).at HS8.out.live.g.rows.rise HS8.out.live.g.rows.most (by have := HND.out; omega) (by have := HS8.out.live.g.g.of_.next_le; have := HS8.out.live.g.lm; omega) (by omega)
      rw [show n90 + 90 = n by omega] at hrc
      unfold RComR at hrc
      rw [show n90 + 90 = n by omega] at hrc
      generalize comF n (foldA r0 ds) d = f at *
      have HF0 := Lib.hid (fun (_ : Unit) => hf0)
      clear hrf hr9 hf0 hB8
      have HRC := Lib.hid hrc
      clear hrc
      go_wp2_with fail
      refine OnlyNormal.mk ⟨HT8.out, ?_⟩
      apply wpStages_seq
      simp only [picked, List.filterMap_cons, List.filterMap_nil, List.getElem?_cons_zero, List.getElem?_cons_succ]
      go_wp2_with fail
      refine HRC.out.mono ?_
      clear HRC
      rintro _ w9 ⟨rfl, hR9⟩
      rcases hR9 with ⟨-, hB9⟩ | ⟨h0, -⟩
      case inr => exact absurd h0 (HF0.out ())
      have HS9 := Lib.hid ((HS8.out.later hB9 HS8.out.size).next)
      have HStoW := Lib.hid ((hB9.block _ (lt_of_heap HT8.out)).trans HT8.out)
      have hsm : Calls Try.prog 15 #[errV f, .int .i64 (f : Int)] w9 (Ret (.bool true) fun w' => w9 = w') := by simpa using same_any f f w9
      unfold errN
      clear hB9
      go_wp2_with fail
      refine hsm.mono ?_
      rintro _ w10 ⟨rfl, rfl⟩
      clear hsm
      go_wp2_with fail
      refine OnlyNormal.mk ?_
      apply wpStages_last
      case hT => exact HStoW.out
      case hn => exact Nat.le_refl _
      case hq =>
        intro w5 hT
        simp only [picked, List.filterMap_cons, List.filterMap_nil, List.getElem?_cons_zero, List.getElem?_cons_succ]
        repeat still_step
        exact wpStill_nil rfl
      simp only [picked, List.filterMap_nil]
      refine wpList_nil (OnlyNormal.mk ?_)
      clear HSA HVA HLD
      go_wp2_with fail
      obtain ⟨nx, hnx⟩ : ∃ nx, nx = L.next := ⟨_, rfl⟩
      have hnm : L.many = n90 := (HS9.out.live.g.lm).trans (HN90.out ()).symm
      have hnl : nx ≤ n90 := by rw [hnx, ← hnm]; exact HS9.out.live.g.g.of_.next_le
      have hn40 : n90 ≤ 40 := by have := HN90.out (); have := HN.out (); omega
      have HRM := Lib.hid (fun w' (hb : Below w9.heap.size w9 w') => show Calls Try.prog 59 #[.pointer (some ⟨sb, 0, none⟩)] w' (Ret (.int .i64 ((n90 : Int) - (nx : Int))) fun w'' => ∃ n, w'' = w'.drewN n) from by
        have h := sroom_any sb db lb H vr L w' (HS9.out.live.later hb).s (HS9.out.live.later hb).l (by omega) (by omega)
        rw [hnm, ← hnx] at h
        exact h)
      have HRO := Lib.hid (fun w' (hb : Below w9.heap.size w9 w') => srows_any sb db lb H vr (foldA r0 ds) w' (HS9.out.live.later hb).s (HS9.out.live.later hb).r.at (by have := HS9.out.live.g.rows.most; omega))
      have HRF := Lib.hid (fun w' (hb : Below w9.heap.size w9 w') => show RefAt w' mb mr nx n90 from by
        have h := (hb.block _ (lt_of_heap HS9.out.ref)).trans HS9.out.ref
        rw [← hnx, ← HN90.out ()] at h
        exact h)
      have hsub : IntKind.i64.wrap ((n90 : Int) - (nx : Int)) = (n90 : Int) - (nx : Int) := IntWalk.i64_in _ (by omega)
      clear hnx hnm
      refine wp_region_plan (fun w5 => Below w9.heap.size w9 w5) 147 [([0, 2, 6, 3, 7, 4, 8, 5, 9, 10], [1], true), ([11, 12, 13, 15, 16, 17, 18], [14], true), ([], [19], false), ([20, 21], [], false)] (by kernel_rfl) (by kernel_rfl) ?_
      apply wpStages_keep
      case hT => exact (Below.refl _ _).drew
      case hn => exact Nat.le_refl _
      case hq =>
        intro w5 hT
        obtain ⟨r0', r1', r2'⟩ := (HRF.out w5 hT).cells
        clear hT
        simp only [picked, List.filterMap_cons, List.filterMap_nil, List.getElem?_cons_zero, List.getElem?_cons_succ]
        repeat still_step
        exact wpStill_nil rfl
      simp only [picked, List.filterMap_cons, List.filterMap_nil, List.getElem?_cons_zero, List.getElem?_cons_succ]
      go_wp2_with fail
      refine (HRM.out _ (Below.refl _ _).drew).mono ?_
      clear HRM
      rintro _ w9 ⟨rfl, q, rfl⟩
      have HBQ := Lib.hid (below_drewN ((Below.refl w9.heap.size w9).drew) q)
      generalize w9.drew.drewN q = w9 at *
      go_wp2_with fail
      refine OnlyNormal.mk ⟨HBQ.out, ?_⟩
      apply wpStages_keep
      case hT => exact HBQ.out
      case hn => exact Nat.le_refl _
      case hq =>
        intro w5 hT
        obtain ⟨r0', r1', r2'⟩ := (HRF.out w5 hT).cells
        clear hT
        simp only [picked, List.filterMap_cons, List.filterMap_nil, List.getElem?_cons_zero, List.getElem?_cons_succ]
        still_step
        still_step
        with_reducible refine wpStill_want ?hw (fun K hK => ?_)
        case hw => kernel_rfl
        (go_simp; refine hK _ ?_; clear hK K)
        with_reducible refine wpStill_want ?hw (fun K hK => ?_)
        case hw => kernel_rfl
        (go_simp; refine hK _ ?_; clear hK K)
        with_reducible refine wpStill_want ?hw (fun K hK => ?_)
        case hw => kernel_rfl
        (go_simp; refine hK _ ?_; clear hK K)
        with_reducible refine wpStill_want ?hw (fun K hK => ?_)
        case hw => kernel_rfl
        (go_simp; refine hK _ ?_; clear hK K)
        with_reducible refine wpStill_want ?hw (fun K hK => ?_)
        case hw => kernel_rfl
        (go_simp; refine hK _ ?_; clear hK K)
        exact wpStill_nil rfl
      simp only [picked, List.filterMap_cons, List.filterMap_nil, List.getElem?_cons_zero, List.getElem?_cons_succ]
      go_wp2_with fail
      refine (HRO.out w9 HBQ.out).mono ?_
      clear HRO
      rintro _ w10 ⟨v10, rfl, ho10, -, hB10⟩
      have HB10 := Lib.hid (HBQ.out.trans (hB10.mono HBQ.out.size))
      have hsm := same_changes v10 mr (foldA r0 ds) (foldA r0 ds) w10 ho10.at (HS9.out.rr.later HB10.out).at (by have := HS9.out.live.g.rows.most; omega)
      rw [(sameL_eq _ _).2 rfl] at hsm
      have HSM := Lib.hid hsm
      clear hsm ho10 hB10
      go_wp2_with fail
      refine OnlyNormal.mk ⟨HB10.out, ?_⟩
      apply wpStages_seq
      simp only [picked, List.filterMap_cons, List.filterMap_nil, List.getElem?_cons_zero, List.getElem?_cons_succ]
      go_wp2_with fail
      refine HSM.out.mono ?_
      clear HSM
      rintro _ w11 ⟨rfl, hB11⟩
      have HS11 := Lib.hid (HS9.out.later (HB10.out.trans (hB11.mono HB10.out.size)) HS9.out.size)
      have HB11 := Lib.hid (HB10.out.trans (hB11.mono HB10.out.size))
      clear hB11
      go_wp2_with fail
      refine OnlyNormal.mk ?_
      apply wpStages_last
      case hT => exact HB11.out
      case hn => exact Nat.le_refl _
      case hq =>
        intro w5 hT
        simp only [picked, List.filterMap_cons, List.filterMap_nil, List.getElem?_cons_zero, List.getElem?_cons_succ]
        with_reducible refine wpStill_want ?hw (fun K hK => ?_)
        case hw => kernel_rfl
        (go_simp; refine hK _ ?_; clear hK K)
        still_step
        exact wpStill_nil rfl
      simp only [picked, List.filterMap_nil]
      refine wpList_nil (OnlyNormal.mk ?_)
      go_wp2_with fail
      exact ⟨⟨m + 1, sb, lb, X, D, H, vr, r0, L, ds, mr, by omega, rfl, by go_num, HS11⟩, by simp [intOf]; omega⟩
    · have hrf := HN.out ()
      replace hF8 := hF8.drew'
      have hFr8 : Fresh wA (sb :: lb :: X) (sb :: lb8 :: Y8) := hFr8
      have hr9 := HN90.out ()
      have hmX := HSA.out.mX
      have hms : mb < wA.heap.size := lt_of_heap HSA.out.ref
      have hm8 : mb ∉ sb :: lb8 :: Y8 := fun hm => (hFr8 mb hm).elim hmX (fun g => by omega)
      have hrf8 : RefAt w8 mb mr L.next n90 := by
        have h := hF8.heap HSA.out.ref hmX
        rw [← HN90.out ()] at h
        exact h
      have hrr8 := HSA.out.rr.go hF8 hFr8
      have HT8 := Lib.hid (hF8.heap HBLK.out HBX.out.1)
      have hv8 : ChangesAt w8 (.slice xo nd xc) d := ((HVA.out.mono (fun k _ hk => hk.1)).go hF8 hFr8).at
      have hrc := rcommit_any mb mr (.slice xo nd xc) (foldA r0 ds) d L.next n90 w8 hrf8 hrr8.at hv8 HSA.out.live.g.rows.rise HSA.out.live.g.rows.most (by have := HND.out; omega) (by have := HSA.out.live.g.g.of_.next_le; have := HSA.out.live.g.lm; omega) (by omega)
      rw [show n90 + 90 = n by omega, hf0] at hrc
      unfold RComR at hrc
      rw [show n90 + 90 = n by omega] at hrc
      have hlo8 : ∀ k ∈ sb :: lb8 :: Y8, w.heap.size ≤ k := fun k hk => (hFr8 k hk).elim (HSA.out.lo k) (fun g => by have := HSA.out.size; omega)
      have hbw8 : Below w.heap.size w w8 := HSA.out.below.trans (hF8.below HSA.out.size HSA.out.lo)
      have HX8 := Lib.hid (And.intro hl8 (And.intro hnx8 (And.intro hrw8 (And.intro hep8 (And.intro hft8 (And.intro hup8 (And.intro hm8 (And.intro hrf8 (And.intro hrr8 (And.intro hlo8 (And.intro hbw8 hf0)))))))))))
      clear hrf hr9 hf0 hl8 hnx8 hrw8 hep8 hft8 hup8 hm8 hrf8 hrr8 hlo8 hbw8 hF8 hFr8 hmX hms hv8
      have e0 : errV 0 = .nilIface := rfl
      rw [e0]
      clear e0
      have HRC := Lib.hid hrc
      clear hrc
      go_wp2_with fail
      refine OnlyNormal.mk ⟨HT8.out, ?_⟩
      apply wpStages_seq
      simp only [picked, List.filterMap_cons, List.filterMap_nil, List.getElem?_cons_zero, List.getElem?_cons_succ]
      go_wp2_with fail
      refine HRC.out.mono ?_
      clear HRC
      rintro _ w9 ⟨rfl, hR9⟩
      rcases hR9 with ⟨h0, -⟩ | ⟨-, hF9, mr9, hrf9, ho9, hk9⟩
      case inl => exact absurd HX8.out.2.2.2.2.2.2.2.2.2.2.2 h0
      obtain ⟨hl8, hnx8, hrw8, hep8, hft8, hup8, hm8, hrf8, hrr8, hlo8, hbw8, hf0⟩ := HX8.out
      have hms8 : mb < w8.heap.size := lt_of_heap hrf8
      have HStoW := Lib.hid (hF9.heap HT8.out (fun hm => HBX.out.2 (List.mem_singleton.1 hm)))
      have HS9 := Lib.hid (show SL w w9 n (m + 1) db sb lb8 mb Y8 D8 H8 vr8 r8 L8 ds8 mr9 from by
        have hs := hbw8.size
        refine ⟨hl8.other hrf8 HSA.out.rr.slice hF9 hm8, hlo8, hbw8.trans (hF9.below hs (fun k hk => by rw [List.mem_singleton.1 hk]; exact HSA.out.mlo)), HSA.out.mlo, hm8, ?_, ?_, hup8 HSA.out.up, by have := HSA.out.ep; omega, by have := HSA.out.ft; have := HN.out (); omega⟩
        · rw [hnx8, ← HN90.out ()]
          have h : comN L d = rcomN L.next n90 d := by
            rw [comN, rcomN, show L.many = n90 by rw [HN90.out ()]; exact HSA.out.live.g.lm]
          rw [h]
          exact hrf9
        · rw [hrw8]
          exact (ChgP.of_owns ho9).mono (fun k _ hk hm => by have := hk9 k hk; have := hl8.lt k hm; omega))
      have hsm : Calls Try.prog 15 #[.nilIface, .int .i64 0] w9 (Ret (.bool true) fun w' => w9 = w') := by
        have h : Calls Try.prog 15 #[errV 0, .int .i64 0] w9 (Ret (.bool true) fun w' => w9 = w') := by simpa using same_any 0 0 w9
        exact h
      unfold errN
      obtain ⟨a9, b9, c9, rfl⟩ : ∃ a b c, mr9 = .slice a b c := by
        obtain ⟨ao, cap, h⟩ := owns_form ho9
        exact ⟨_, _, _, h⟩
      clear hF9 hrf9 ho9 hk9 hl8 hnx8 hrw8 hep8 hft8 hup8 hm8 hrf8 hrr8 hlo8 hbw8 hf0 hms8 HX8
      go_wp2_with fail
      refine hsm.mono ?_
      rintro _ w10 ⟨rfl, rfl⟩
      clear hsm
      go_wp2_with fail
      refine OnlyNormal.mk ?_
      apply wpStages_last
      case hT => exact HStoW.out
      case hn => exact Nat.le_refl _
      case hq =>
        intro w5 hT
        simp only [picked, List.filterMap_cons, List.filterMap_nil, List.getElem?_cons_zero, List.getElem?_cons_succ]
        repeat still_step
        exact wpStill_nil rfl
      simp only [picked, List.filterMap_nil]
      refine wpList_nil (OnlyNormal.mk ?_)
      clear HSA HVA HLD
      go_wp2_with fail
      obtain ⟨nx, hnx⟩ : ∃ nx, nx = L8.next := ⟨_, rfl⟩
      have hnm : L8.many = n90 := (HS9.out.live.g.lm).trans (HN90.out ()).symm
      have hnl : nx ≤ n90 := by rw [hnx, ← hnm]; exact HS9.out.live.g.g.of_.next_le
      have hn40 : n90 ≤ 40 := by have := HN90.out (); have := HN.out (); omega
      have HRM := Lib.hid (fun w' (hb : Below w9.heap.size w9 w') => show Calls Try.prog 59 #[.pointer (some ⟨sb, 0, none⟩)] w' (Ret (.int .i64 ((n90 : Int) - (nx : Int))) fun w'' => ∃ n, w'' = w'.drewN n) from by
        have h := sroom_any sb db lb8 H8 vr8 L8 w' (HS9.out.live.later hb).s (HS9.out.live.later hb).l (by omega) (by omega)
        rw [hnm, ← hnx] at h
        exact h)
      have HRO := Lib.hid (fun w' (hb : Below w9.heap.size w9 w') => srows_any sb db lb8 H8 vr8 (foldA r8 ds8) w' (HS9.out.live.later hb).s (HS9.out.live.later hb).r.at (by have := HS9.out.live.g.rows.most; omega))
      have HRF := Lib.hid (fun w' (hb : Below w9.heap.size w9 w') => show RefAt w' mb (.slice a9 b9 c9) nx n90 from by
        have h := (hb.block _ (lt_of_heap HS9.out.ref)).trans HS9.out.ref
        rw [← hnx, ← HN90.out ()] at h
        exact h)
      have hsub : IntKind.i64.wrap ((n90 : Int) - (nx : Int)) = (n90 : Int) - (nx : Int) := IntWalk.i64_in _ (by omega)
      clear hnx hnm
      refine wp_region_plan (fun w5 => Below w9.heap.size w9 w5) 147 [([0, 2, 6, 3, 7, 4, 8, 5, 9, 10], [1], true), ([11, 12, 13, 15, 16, 17, 18], [14], true), ([], [19], false), ([20, 21], [], false)] (by kernel_rfl) (by kernel_rfl) ?_
      apply wpStages_keep
      case hT => exact (Below.refl _ _).drew
      case hn => exact Nat.le_refl _
      case hq =>
        intro w5 hT
        obtain ⟨r0', r1', r2'⟩ := (HRF.out w5 hT).cells
        clear hT
        simp only [picked, List.filterMap_cons, List.filterMap_nil, List.getElem?_cons_zero, List.getElem?_cons_succ]
        repeat still_step
        exact wpStill_nil rfl
      simp only [picked, List.filterMap_cons, List.filterMap_nil, List.getElem?_cons_zero, List.getElem?_cons_succ]
      go_wp2_with fail
      refine (HRM.out _ (Below.refl _ _).drew).mono ?_
      clear HRM
      rintro _ w9 ⟨rfl, q, rfl⟩
      have HBQ := Lib.hid (below_drewN ((Below.refl w9.heap.size w9).drew) q)
      generalize w9.drew.drewN q = w9 at *
      go_wp2_with fail
      refine OnlyNormal.mk ⟨HBQ.out, ?_⟩
      apply wpStages_keep
      case hT => exact HBQ.out
      case hn => exact Nat.le_refl _
      case hq =>
        intro w5 hT
        obtain ⟨r0', r1', r2'⟩ := (HRF.out w5 hT).cells
        clear hT
        simp only [picked, List.filterMap_cons, List.filterMap_nil, List.getElem?_cons_zero, List.getElem?_cons_succ]
        still_step
        still_step
        with_reducible refine wpStill_want ?hw (fun K hK => ?_)
        case hw => kernel_rfl
        (go_simp; refine hK _ ?_; clear hK K)
        with_reducible refine wpStill_want ?hw (fun K hK => ?_)
        case hw => kernel_rfl
        (go_simp; refine hK _ ?_; clear hK K)
        with_reducible refine wpStill_want ?hw (fun K hK => ?_)
        case hw => kernel_rfl
        (go_simp; refine hK _ ?_; clear hK K)
        with_reducible refine wpStill_want ?hw (fun K hK => ?_)
        case hw => kernel_rfl
        (go_simp; refine hK _ ?_; clear hK K)
        with_reducible refine wpStill_want ?hw (fun K hK => ?_)
        case hw => kernel_rfl
        (go_simp; refine hK _ ?_; clear hK K)
        exact wpStill_nil rfl
      simp only [picked, List.filterMap_cons, List.filterMap_nil, List.getElem?_cons_zero, List.getElem?_cons_succ]
      go_wp2_with fail
      refine (HRO.out w9 HBQ.out).mono ?_
      clear HRO
      rintro _ w10 ⟨v10, rfl, ho10, -, hB10⟩
      have HB10 := Lib.hid (HBQ.out.trans (hB10.mono HBQ.out.size))
      have hsm := same_changes v10 (.slice a9 b9 c9) (foldA r8 ds8) (foldA r8 ds8) w10 ho10.at (HS9.out.rr.later HB10.out).at (by have := HS9.out.live.g.rows.most; omega)
      rw [(sameL_eq _ _).2 rfl] at hsm
      have HSM := Lib.hid hsm
      clear hsm ho10 hB10
      go_wp2_with fail
      refine OnlyNormal.mk ⟨HB10.out, ?_⟩
      apply wpStages_seq
      simp only [picked, List.filterMap_cons, List.filterMap_nil, List.getElem?_cons_zero, List.getElem?_cons_succ]
      go_wp2_with fail
      refine HSM.out.mono ?_
      clear HSM
      rintro _ w11 ⟨rfl, hB11⟩
      have HS11 := Lib.hid (HS9.out.later (HB10.out.trans (hB11.mono HB10.out.size)) HS9.out.size)
      have HB11 := Lib.hid (HB10.out.trans (hB11.mono HB10.out.size))
      clear hB11
      go_wp2_with fail
      refine OnlyNormal.mk ?_
      apply wpStages_last
      case hT => exact HB11.out
      case hn => exact Nat.le_refl _
      case hq =>
        intro w5 hT
        simp only [picked, List.filterMap_cons, List.filterMap_nil, List.getElem?_cons_zero, List.getElem?_cons_succ]
        with_reducible refine wpStill_want ?hw (fun K hK => ?_)
        case hw => kernel_rfl
        (go_simp; refine hK _ ?_; clear hK K)
        still_step
        exact wpStill_nil rfl
      simp only [picked, List.filterMap_nil]
      refine wpList_nil (OnlyNormal.mk ?_)
      go_wp2_with fail
      exact ⟨⟨m + 1, sb, lb8, Y8, D8, H8, vr8, r8, L8, ds8, (.slice a9 b9 c9), by omega, rfl, by go_num, HS11⟩, by simp [intOf]; omega⟩


end Go.Proofs.Ytkapmpngglibjaa
