/- The law TopCrash, walked. Conditions: the contract's own premises. -/
import Derived.Test.YtkapmpngglibjaaQ32
import Derived.Test.YtkapmpngglibjaaQ12
namespace Go.Proofs.Ytkapmpngglibjaa
open Go Go.RowKit Go.Shelf

theorem comF_ne (n : Nat) (rows l : List Chg) : comF n rows l ≠ 10 := by
  unfold comF
  split
  · decide
  · split
    · exact firstFault_lt l
    · split <;> decide

/-- What is known ahead of each deed. -/
structure TC (w0 w : World) (k db sb lb : Nat) (X : List Nat) (D : DM) (H : HM) (vr : Value) (r0 : List Chg) (L : LM) (ds : List (List Chg)) (vw vl : Value) : Prop where
  live : StoLive w sb lb db X D 110 H vr r0 L ds
  lo : ∀ j ∈ sb :: lb :: X, w0.heap.size ≤ j
  below : Below w0.heap.size w0 w
  want : ChgP (fun j => j ∉ sb :: lb :: X) w vw (foldA r0 ds)
  last : ChgP (fun j => j ∉ sb :: lb :: X) w vl (foldA r0 ds)
  ep : H.epoch ≤ 1 + k
  ft : H.first ≤ 1 + 20 * k

/-- What is known where the disk falls, or all is done. -/
structure TE (w0 w : World) (db : Nat) (X : List Nat) (D : DM) (vw vl : Value) (rw rl : List Chg) : Prop where
  d : DiskAt w 107 111 db X D
  lo : ∀ j ∈ X, w0.heap.size ≤ j
  below : Below w0.heap.size w0 w
  want : ChgP (fun j => j ∉ X) w vw rw
  last : ChgP (fun j => j ∉ X) w vl rl
  wait : D.wait.length < 10000
  good : ∀ keep, ∃ H r0 L ds, StoGood (D.restart keep) 110 H r0 L ds ∧ (foldA r0 ds = rw ∨ foldA r0 ds = rl) ∧ H.epoch ≤ 1000 ∧ H.first ≤ 10000
  size : rw.length ≤ 900

theorem TC.later {w0 w w' : World} {k db sb lb : Nat} {X : List Nat} {D : DM} {H : HM} {vr : Value} {r0 : List Chg} {L : LM} {ds : List (List Chg)} {vw vl : Value} (h : TC w0 w k db sb lb X D H vr r0 L ds vw vl) (hb : Below w.heap.size w w') : TC w0 w' k db sb lb X D H vr r0 L ds vw vl :=
  ⟨h.live.later hb, h.lo, h.below.trans (hb.mono h.below.size), h.want.later hb, h.last.later hb, h.ep, h.ft⟩
theorem TC.mono {w0 w : World} {k k' db sb lb : Nat} {X : List Nat} {D : DM} {H : HM} {vr : Value} {r0 : List Chg} {L : LM} {ds : List (List Chg)} {vw vl : Value} (h : TC w0 w k db sb lb X D H vr r0 L ds vw vl) (hk : k ≤ k') : TC w0 w k' db sb lb X D H vr r0 L ds vw vl :=
  ⟨h.live, h.lo, h.below, h.want, h.last, by have := h.ep; omega, by have := h.ft; omega⟩
theorem TC.end {w0 w : World} {k db sb lb : Nat} {X : List Nat} {D : DM} {H : HM} {vr : Value} {r0 : List Chg} {L : LM} {ds : List (List Chg)} {vw vl : Value} (h : TC w0 w k db sb lb X D H vr r0 L ds vw vl) (hk : k ≤ 100) : TE w0 w db X D vw vl (foldA r0 ds) (foldA r0 ds) :=
  ⟨h.live.d, fun j hj => h.lo j (by simp [hj]), h.below, h.want.mono (fun j _ hj hm => hj (by simp [hm])), h.last.mono (fun j _ hj hm => hj (by simp [hm])), by rw [h.live.g.g.wait]; decide,
    fun keep => ⟨H, r0, L, ds, h.live.g.restart keep, .inl rfl, by have := h.ep; omega, by have := h.ft; omega⟩, by have := h.live.g.rows.most; omega⟩

set_option maxHeartbeats 40000000 in
set_option maxRecDepth 100000 in
theorem topCrash_any (v : Value) (l : List (List Chg)) (fuse : Int) (keep : Nat) (w : World) (h : DeedsP (fun _ => True) w v l) (hkeep : keep < 2 ^ 64) :
    Calls Try.prog 10 #[v, .int .i64 fuse, .int .u64 (keep : Int)] w (Ret (.bool true) fun w' => Below w.heap.size w w') := by
  have HK := Lib.hid hkeep
  have H1 := Lib.hid (show DeedsP (fun k => k < w.heap.size) w v l from h.mono fun k hk _ => hk)
  have hlm : l.length ≤ maxLen := by
    obtain ⟨ao, cap, vs, -, hm, -⟩ := h
    exact hm
  obtain ⟨ao, cap, rfl, -⟩ := h.form
  have HLM := Lib.hid (fun (_ : Unit) => hlm)
  clear h hkeep hlm
  go_enter Try.func10, Try.ntmps10
  go_wp2_with fail
  refine (kept_any w).mono ?_
  rintro _ w1 ⟨rfl, hB1⟩
  go_wp2_with fail
  refine (stored_any 110 w1 (by decide) (by decide)).mono ?_
  rintro _ w2 ⟨_, rfl, hB2, sb, lb, db, X, D, vr, rfl, hlo, hlive, hr⟩
  have hlo' : ∀ k ∈ sb :: lb :: X, w.heap.size ≤ k := fun k hk => Nat.le_trans hB1.size (hlo k hk)
  have HT2 := Lib.hid (show TC w w2 0 db sb lb X D head1 vr [] ⟨90, 20, 1, 0⟩ [] (.slice none 0 0) (.slice none 0 0) from
    ⟨hlive, hlo', hB1.trans (hB2.mono hB1.size), ⟨none, 0, rfl, by unfold maxLen; decide, fun i c hc => by simp [foldA] at hc⟩, ⟨none, 0, rfl, by unfold maxLen; decide, fun i c hc => by simp [foldA] at hc⟩, Nat.le_refl _, Nat.le_refl _⟩)
  clear hB1 hB2 hlo hlo' hlive hr
  go_wp2_with fail
  refine (lightDeeds_any _ _ l 20 w2 (H1.out.later HT2.out.below)).mono ?_
  rintro _ w4 ⟨rfl, rfl⟩
  by_cases hl : lightDeeds l 20 = true
  case neg =>
    rw [Bool.not_eq_true] at hl
    rw [hl]
    go_wp2_with fail
    go_ret
    exact Ret.of rfl HT2.out.below
  rw [hl]
  have hl' : l.length ≤ 20 ∧ ∀ d ∈ l, d.length ≤ 14 := by
    rw [lightDeeds, Bool.and_eq_true, decide_eq_true_eq, List.all_eq_true] at hl
    refine ⟨by omega, fun d hd => ?_⟩
    have := hl.2 d hd
    rw [lightChanges, Bool.and_eq_true, decide_eq_true_eq] at this
    omega
  obtain ⟨hl8, hel⟩ := hl'
  have HEL := Lib.hid hel
  clear hl hel
  go_wp2_with fail
  refine (arm_any db X D _ w2 HT2.out.live.d (by omega)).mono ?_
  rintro _ w5 ⟨rfl, hD5, hF5⟩
  have HTL := Lib.hid (show TC w w5 0 db sb lb X (D.arm (min (max fuse (-1)) 400)) head1 vr [] ⟨90, 20, 1, 0⟩ [] (.slice none 0 0) (.slice none 0 0) from by
    have h := HT2.out
    have h1 : ∀ k, k ∉ sb :: lb :: X → k ∉ X := fun k hk hm => hk (by simp [hm])
    refine ⟨⟨hD5, hF5.heap h.live.l h.live.lX, hF5.heap h.live.s h.live.sX, h.live.sX, h.live.lX, h.live.r.frame hF5 (fun k hk => h1 k hk), h.live.g.arm _, h.live.up⟩, h.lo, h.below.trans (hF5.below h.below.size (fun k hk => h.lo k (by simp [hk]))),
      h.want.frame hF5 (fun k hk => h1 k hk), h.last.frame hF5 (fun k hk => h1 k hk), h.ep, h.ft⟩)
  generalize D.arm (min (max fuse (-1)) 400) = D1 at *
  clear hD5 hF5 HT2
  obtain ⟨n, hn⟩ : ∃ n, n = l.length := ⟨_, rfl⟩
  rw [← hn] at hl8 ⊢
  have HN := Lib.hid (fun (_ : Unit) => hn)
  clear hn
  have n0 : (0 : Int) ≤ (n : Int) := by omega
  have n8 : (n : Int) ≤ 20 := by omega
  go_wp2_with fail
  go_loopw [10, 11, 12] (fun want last i wr => ∃ (k lb : Nat) (X' : List Nat) (D' : DM) (H : HM) (vr : Value) (r0 : List Chg) (L : LM) (ds : List (List Chg)), k ≤ n ∧ i = .int .i64 (k : Int) ∧ Hid (TC w wr (2 * k) db sb lb X' D' H vr r0 L ds want last)) (fun _ _ i _ => n - (intOf i).toNat)
  case atStart => exact ⟨0, lb, X, D1, head1, vr, [], _, [], Nat.zero_le _, rfl, HTL⟩
  case round =>
    clear HTL
    obtain ⟨k, lb, X, D, H, vr, r0, L, ds, hk, rfl, HTL⟩ := hrel
    have k0 : (0 : Int) ≤ (k : Int) := by omega
    by_cases hlt : k < n
    · have k1 : (k : Int) < (n : Int) := by omega
      obtain ⟨d, hd⟩ : ∃ d, l[k]? = some d := ⟨_, List.getElem?_eq_getElem (by rw [← HN.out ()]; exact hlt)⟩
      obtain ⟨b0, off, u, hao, hb0, hc0, hu⟩ := (show DeedsP (fun k => k < w.heap.size) w (.slice ao n cap) l by rw [HN.out ()]; exact H1.out).elem k d hd
      subst hao
      have hdl : d.length ≤ 14 := HEL.out d (List.mem_of_getElem? hd)
      have HU := Lib.hid (show ChgP (fun j => j < w.heap.size) w u d from hu)
      have HC0 := Lib.hid hc0
      obtain ⟨aou, capu, rfl⟩ : ∃ ao cap, u = .slice ao d.length cap := by
        obtain ⟨ao, cap, rfl, -⟩ := hu
        exact ⟨ao, cap, rfl⟩
      obtain ⟨dn, hdn⟩ : ∃ n, n = d.length := ⟨_, rfl⟩
      rw [← hdn] at HU HC0 hdl
      have HDN := Lib.hid (fun (_ : Unit) => And.intro hdn hdl)
      clear hu hc0 hb0 hd hdn hdl
      by_cases h4 : k % 5 = 4
      · have h4' : ((k : Int) % 5 == 4) = true := by rw [beq_iff_eq]; omega
        have h4'' : ((k : Int) % 5 = 4) = True := eq_true (by omega)
        have hck := ck_good HTL.out.live (by have := HTL.out.ep; omega) (by have := HTL.out.ft; omega)
        have HCKA := Lib.hid hck
        clear hck h4
        go_wp2_with fail
        refine HCKA.out.mono ?_
        clear HCKA
        rintro _ w3 ⟨v3, rfl, hv⟩
        rcases hv with ⟨rfl, lb3, Y3, D3, H3, hl3, hF3, hFr3, hep3, hft3, -⟩ | ⟨rfl, -, Y3, D3, hD3, hY3, hF3, hw3, hk3⟩
        · have HT3 := Lib.hid (show TC w w3 (2 * k + 1) db sb lb3 Y3 D3 H3 vr (foldA r0 ds) ⟨90, 110 - 90, H3.first, 0⟩ [] u10 u11 from by
            have h := HTL.out
            exact ⟨hl3, fun j hj => (hFr3 j hj).elim (h.lo j) (fun g => Nat.le_trans h.below.size g), h.below.trans (hF3.below h.below.size h.lo), h.want.go hF3 hFr3, h.last.go hF3 hFr3, by have := h.ep; omega, by have := h.ft; omega⟩)
          have hnm := number_any 0 w3
          rw [show errV 0 = .nilIface from rfl] at hnm ⊢
          have HNM := Lib.hid hnm
          clear hl3 hF3 hFr3 hep3 hft3 hnm HTL
          go_wp2_with fail
          refine HNM.out.mono ?_
          clear HNM
          rintro _ w4 ⟨rfl, rfl⟩
          clear h4' h4''
          have cU := (HT3.out.below.cell (World.block_lt_of_cell? w _ HC0.out)).trans HC0.out
          have HUW := Lib.hid (show ChgP (fun j => j ∉ sb :: lb3 :: Y3) w3 (.slice aou dn capu) d from (HU.out.mono (fun j _ hj hm => by have := HT3.out.lo j hm; omega)).later HT3.out.below)
          have hcm := commit_good HT3.out.live (.slice aou dn capu) d HUW.out (by have := HDN.out (); omega) (by have := HT3.out.ep; omega) (by have := HT3.out.ft; omega)
          have HCM := Lib.hid hcm
          clear hcm
          go_wp2_with fail
          refine HCM.out.mono ?_
          clear HCM
          rintro _ w5 ⟨v5, rfl, hcv⟩
          clear cU
          rcases hcv with ⟨hf0, rfl, hB5⟩ | ⟨hf0, rfl, lb5, Y5, D5, H5, vr5, r5, L5, ds5, hl5, -, hrw5, hF5, hFr5, hep5, hft5, -⟩ | ⟨hf0, rfl, -, Y5, D5, hD5, hY5, hF5, hw5, hk5⟩
          · have hne := comF_ne 110 (foldA (foldA r0 ds) ([] : List (List Chg))) d
            have HT5 := Lib.hid ((HT3.out.later hB5).mono (show 2 * k + 1 ≤ 2 * (k + 1) by omega))
            generalize comF 110 (foldA (foldA r0 ds) ([] : List (List Chg))) d = f at *
            have hnm := number_any f w5
            rw [show errV f = .iface 101 (.int .i64 (f : Int)) by simp [errV, hf0]] at hnm ⊢
            have HNM := Lib.hid hnm
            have hf10 : ¬ (f : Int) = 10 := by omega
            have hf10b : ((f : Int) == 10) = false := by simpa using hf10
            clear hf0 hne hB5 hnm
            go_wp2_with fail
            refine HNM.out.mono ?_
            rintro _ w6 ⟨rfl, rfl⟩
            go_wp2_with fail
            exact ⟨⟨k + 1, lb3, Y3, D3, H3, vr, (foldA r0 ds), (⟨90, 110 - 90, H3.first, 0⟩ : LM), ([] : List (List Chg)), by omega, by go_num, HT5⟩, by simp [intOf]; omega⟩
          · have hB5 : Below w.heap.size w w5 := HT3.out.below.trans (hF5.below HT3.out.below.size HT3.out.lo)
            have hlo5 : ∀ j ∈ sb :: lb5 :: Y5, w.heap.size ≤ j := fun j hj => (hFr5 j hj).elim (HT3.out.lo j) (fun g => Nat.le_trans HT3.out.below.size g)
            have cU := (hB5.cell (World.block_lt_of_cell? w _ HC0.out)).trans HC0.out
            have HW5 := Lib.hid (HT3.out.want.go hF5 hFr5)
            have HU5 := Lib.hid (HUW.out.go hF5 hFr5)
            have hap := applied_any u10 (.slice aou dn capu) (foldA (foldA r0 ds) ([] : List (List Chg))) d w5 HW5.out.at HU5.out.at HT3.out.live.g.rows.rise (by have := HDN.out (); have := HT3.out.live.g.rows.most; omega)
            rw [refL_applyL d _ HT3.out.live.g.rows.rise] at hap
            have HAP := Lib.hid hap
            have HX5 := Lib.hid (And.intro hl5 (And.intro hrw5 (And.intro hep5 (And.intro hft5 (And.intro hlo5 hB5)))))
            rw [show errV 0 = .nilIface from rfl]
            clear hf0 hl5 hrw5 hF5 hFr5 hep5 hft5 hlo5 hB5 hap
            go_wp2_with fail
            refine HAP.out.mono ?_
            clear HAP
            rintro _ w6 ⟨v6, rfl, ho6, hB6⟩
            have HT6 := Lib.hid (show TC w w6 (2 * (k + 1)) db sb lb5 Y5 D5 H5 vr5 r5 L5 ds5 v6 v6 from by
              obtain ⟨hl5, hrw5, hep5, hft5, hlo5, hB5⟩ := HX5.out
              have hch : ChgP (fun j => j ∉ sb :: lb5 :: Y5) w6 v6 (foldA r5 ds5) := by
                rw [hrw5]
                exact (ChgP.of_owns ho6).mono (fun j _ hj hm => by have := (World.ownsRow.lt ho6 j hj).1; have := hl5.lt j hm; omega)
              exact ⟨hl5.later hB6, hlo5, hB5.trans (hB6.mono hB5.size), hch, hch, by have := HT3.out.ep; omega, by have := HT3.out.ft; omega⟩)
            clear ho6 hB6 cU
            go_wp2_with fail
            exact ⟨⟨k + 1, lb5, Y5, D5, H5, vr5, r5, L5, ds5, by omega, by go_num, HT6⟩, by simp [intOf]; omega⟩
          · have hB5 : Below w.heap.size w w5 := HT3.out.below.trans (hF5.below HT3.out.below.size HT3.out.lo)
            have hlo5 : ∀ j ∈ Y5, w.heap.size ≤ j := fun j hj => (hY5 j hj).elim (HT3.out.lo j) (fun g => Nat.le_trans HT3.out.below.size g)
            have cU := (hB5.cell (World.block_lt_of_cell? w _ HC0.out)).trans HC0.out
            have HW5 := Lib.hid (HT3.out.want.go hF5 hY5)
            have HU5 := Lib.hid (HUW.out.go hF5 hY5)
            have hap := applied_any u10 (.slice aou dn capu) (foldA (foldA r0 ds) ([] : List (List Chg))) d w5 HW5.out.at HU5.out.at HT3.out.live.g.rows.rise (by have := HDN.out (); have := HT3.out.live.g.rows.most; omega)
            rw [refL_applyL d _ HT3.out.live.g.rows.rise] at hap
            have HAP := Lib.hid hap
            have HX5 := Lib.hid (show DiskAt w5 107 111 db Y5 D5 ∧ (∀ j ∈ Y5, w.heap.size ≤ j) ∧ Below w.heap.size w w5 ∧ D5.wait.length < 10000 ∧ ∀ keep, ∃ H r0' L ds', StoGood (D5.restart keep) 110 H r0' L ds' ∧ (foldA r0' ds' = foldA (foldA r0 ds) ([] : List (List Chg)) ∨ foldA r0' ds' = applyL (foldA (foldA r0 ds) ([] : List (List Chg))) d) ∧ H.epoch ≤ 1000 ∧ H.first ≤ 10000 from
              ⟨hD5, hlo5, hB5, hw5, fun keep => by
                obtain ⟨H', r', L', ds', g1, g2, g3, g4⟩ := hk5 keep
                exact ⟨H', r', L', ds', g1, g2, by have := HT3.out.ep; omega, by have := HT3.out.ft; omega⟩⟩)
            have hnm := number_any 10 w5
            rw [show errV 10 = .iface 101 (.int .i64 10) from rfl] at hnm ⊢
            have HNM := Lib.hid hnm
            clear hf0 hD5 hY5 hF5 hw5 hk5 hB5 hlo5 hap hnm
            go_wp2_with fail
            refine HNM.out.mono ?_
            clear HNM
            rintro _ w6 ⟨rfl, rfl⟩
            go_wp2_with fail
            refine HAP.out.mono ?_
            clear HAP
            rintro _ w6 ⟨v6, rfl, ho6, hB6⟩
            have HTE := Lib.hid (show TE w w6 db Y5 D5 u10 v6 (foldA (foldA r0 ds) ([] : List (List Chg))) (applyL (foldA (foldA r0 ds) ([] : List (List Chg))) d) from by
              obtain ⟨hD5, hlo5, hB5, hw5, hk5⟩ := HX5.out
              exact ⟨hD5.frame (Frame.of_below [] hB6) (by simp), hlo5, hB5.trans (hB6.mono hB5.size), HW5.out.later hB6, (ChgP.of_owns ho6).mono (fun j _ hj hm => by have := (World.ownsRow.lt ho6 j hj).1; have := hD5.lt j hm; omega), hw5, hk5, by have := HT3.out.live.g.rows.most; omega⟩)
            clear ho6 hB6 cU HX5 HW5 HU5 HUW
            have hrs := restart_any db Y5 D5 keep w6 HTE.out.d HTE.out.wait HK.out
            obtain ⟨H2, r2, L2, ds2, hg2, hor2, hb1, hb2⟩ := HTE.out.good keep
            have hR : (D5.restart keep).Ready := (restart_now D5 keep).2.2.2
            have HRS := Lib.hid hrs
            have HG2 := Lib.hid hg2
            have HRD := Lib.hid hR
            have HOR := Lib.hid (fun (_ : Unit) => hor2)
            have HBD := Lib.hid (fun (_ : Unit) => And.intro hb1 hb2)
            clear hrs hg2 hR hor2 hb1 hb2
            generalize D5.restart keep = E at *
            go_wp2_with fail
            refine HRS.out.mono ?_
            clear HRS
            rintro _ w7 ⟨rfl, hD7, hF7⟩
            have hop := open_good (w := w7) hD7 HG2.out HRD.out.1 (by have := HBD.out (); omega)
            have HOP := Lib.hid hop
            have HTE7 := Lib.hid (show Below w.heap.size w w7 ∧ ChgP (fun j => j ∉ Y5) w7 u10 (foldA (foldA r0 ds) ([] : List (List Chg))) ∧ ChgP (fun j => j ∉ Y5) w7 v6 (applyL (foldA (foldA r0 ds) ([] : List (List Chg))) d) from ⟨HTE.out.below.trans (hF7.below HTE.out.below.size HTE.out.lo), HTE.out.want.frame hF7 (fun _ h => h), HTE.out.last.frame hF7 (fun _ h => h)⟩)
            clear hD7 hF7 hop
            go_wp2_with fail
            refine HOP.out.mono ?_
            clear HOP
            rintro _ w8 ⟨_, rfl, hB8, sb2, lb2, vr2, rfl, hsb2, hlb2, hlv2⟩
            have HLO2 := Lib.hid (show ∀ j ∈ sb2 :: lb2 :: Y5, w.heap.size ≤ j from fun j hj => by
              have := HTE7.out.1.size
              rcases List.mem_cons.1 hj with rfl | hj
              · omega
              rcases List.mem_cons.1 hj with rfl | hj
              · omega
              · exact HTE.out.lo j hj)
            have HLV2 := Lib.hid hlv2
            have HW8 := Lib.hid (show Below w.heap.size w w8 ∧ ChgP (fun j => j ∉ Y5) w8 u10 (foldA (foldA r0 ds) ([] : List (List Chg))) ∧ ChgP (fun j => j ∉ Y5) w8 v6 (applyL (foldA (foldA r0 ds) ([] : List (List Chg))) d) from ⟨HTE7.out.1.trans (hB8.mono HTE7.out.1.size), HTE7.out.2.1.later hB8, HTE7.out.2.2.later hB8⟩)
            have hro := srows_any sb2 db lb2 H2 vr2 (foldA r2 ds2) w8 hlv2.s hlv2.r.at (by have := hlv2.g.rows.most; omega)
            have HRO := Lib.hid hro
            clear hB8 hsb2 hlb2 hlv2 hro HTE7
            go_wp2_with fail
            refine HRO.out.mono ?_
            clear HRO
            rintro _ w9 ⟨v9, rfl, ho9, hk9, hB9⟩
            obtain ⟨aog, cg, rfl⟩ := owns_form ho9
            have HGOT := Lib.hid (show ChgP (fun j => j ∉ sb2 :: lb2 :: Y5) w9 (.slice aog (foldA r2 ds2).length cg) (foldA r2 ds2) from (ChgP.of_owns ho9).mono (fun j _ hj hm => by have := hk9 j hj; have := HLV2.out.lt j hm; omega))
            have HB98 := Lib.hid hB9
            have HBW9 := Lib.hid (show Below w.heap.size w w9 from HW8.out.1.trans (hB9.mono HW8.out.1.size))
            obtain ⟨ng, hng⟩ : ∃ ng, ng = (foldA r2 ds2).length := ⟨_, rfl⟩
            have HNG := Lib.hid (fun (_ : Unit) => show (foldA r2 ds2).length ≤ 1000 by have := HLV2.out.g.rows.most; omega)
            rw [← hng] at HGOT ⊢
            have hsm1 := same_changes (.slice aog ng cg) u10 (foldA r2 ds2) (foldA (foldA r0 ds) ([] : List (List Chg))) w9 HGOT.out.at (HW8.out.2.1.later hB9).at (HNG.out ())
            have HSM1 := Lib.hid hsm1
            have hsm2 := fun w' (hb : Below w9.heap.size w9 w') => same_changes (.slice aog ng cg) v6 (foldA r2 ds2) (applyL (foldA (foldA r0 ds) ([] : List (List Chg))) d) w' (HGOT.out.later hb).at ((HW8.out.2.2.later hB9).later hb).at (HNG.out ())
            have HSM2 := Lib.hid hsm2
            clear ho9 hk9 hB9 hng hsm1 hsm2
            cases hx : sameL (foldA r2 ds2) (foldA (foldA r0 ds) ([] : List (List Chg)))
            · have hx2 : sameL (foldA r2 ds2) (applyL (foldA (foldA r0 ds) ([] : List (List Chg))) d) = true := by
                rcases HOR.out () with h | h
                · rw [(sameL_eq _ _).2 h] at hx
                  cases hx
                · exact (sameL_eq _ _).2 h
              rw [hx] at HSM1
              rw [hx2] at HSM2
              clear hx hx2
              go_wp2_with fail
              refine HSM1.out.mono ?_
              clear HSM1
              rintro _ w10 ⟨rfl, hB10⟩
              have HB10 := Lib.hid hB10
              clear hB10
              go_wp2_with fail
              refine (HSM2.out w10 HB10.out).mono ?_
              clear HSM2
              rintro _ w11 ⟨rfl, hB11⟩
              have HBR := Lib.hid (show Below w9.heap.size w9 w11 from HB10.out.trans (hB11.mono HB10.out.size))
              clear hB11
              have HG9 := Lib.hid (show ChgP (fun j => j ∉ sb2 :: lb2 :: Y5) w11 (.slice aog ng cg) (foldA r2 ds2) from HGOT.out.later HBR.out)
              have HL9 := Lib.hid (HLV2.out.later (HB98.out.trans (HBR.out.mono HB98.out.size)))
              have hcn : comF 110 (foldA r2 ds2) [] = 0 := comF_zero (by decide) rfl (by have := HL9.out.g.rows.most; show ¬ 64 < (foldA r2 ds2).length; omega) (by decide)
              have hcm := commit_good HL9.out (.slice none 0 0) [] ⟨none, 0, rfl, by unfold maxLen; decide, fun i c hc => by simp at hc⟩ (by decide) (by have := HBD.out (); omega) (by have := HBD.out (); omega)
              have HCN := Lib.hid (fun (_ : Unit) => hcn)
              have HCM := Lib.hid hcm
              clear hcn hcm
              go_wp2_with fail
              refine HCM.out.mono ?_
              clear HCM
              rintro _ wS ⟨vS, rfl, hcv⟩
              obtain ⟨rfl, lbS, YS, DS, HS, vrS, rS, LS', dsS, hlS, -, hrwS, hFS, hFrS, hepS, hftS, hrdS⟩ := hcv.done HRD.out (HCN.out ())
              have hckS := ck_good hlS (by have := HBD.out (); omega) (by have := HBD.out (); omega)
              have HCK := Lib.hid hckS
              have HGS := Lib.hid (HG9.out.go hFS hFrS)
              have hloS : ∀ j ∈ sb2 :: lbS :: YS, w.heap.size ≤ j := fun j hj => (hFrS j hj).elim (HLO2.out j) (fun g => Nat.le_trans (HBW9.out.trans (HBR.out.mono HBW9.out.size)).size g)
              have hbS : Below w.heap.size w wS := (HBW9.out.trans (HBR.out.mono HBW9.out.size)).trans (hFS.below (HBW9.out.trans (HBR.out.mono HBW9.out.size)).size HLO2.out)
              have HXS := Lib.hid (And.intro hloS (And.intro hbS (And.intro hrwS (And.intro hftS hrdS))))
              rw [show errV 0 = .nilIface from rfl]
              clear hcv hlS hrwS hFS hFrS hepS hftS hrdS hckS hloS hbS
              go_wp2_with fail
              refine HCK.out.mono ?_
              clear HCK
              rintro _ wU ⟨vU, rfl, hck⟩
              rcases hck with ⟨rfl, lbU, YU, DU, HU', hlU, hFU, hFrU, hepU, hftU, hrdU⟩ | ⟨-, hnr, -⟩
              case inr => exact absurd HXS.out.2.2.2.2 hnr
              have hopU := open_good (w := wU) hlU.d hlU.g hlU.up (by have := HBD.out (); have := HXS.out.2.2.2.1; omega)
              have HOPU := Lib.hid hopU
              have HGU := Lib.hid (HGS.out.go hFU hFrU)
              have HBU := Lib.hid (show Below w.heap.size w wU from HXS.out.2.1.trans (hFU.below HXS.out.2.1.size HXS.out.1))
              rw [show errV 0 = .nilIface from rfl]
              clear hlU hFU hFrU hepU hftU hrdU hopU
              go_wp2_with fail
              refine HOPU.out.mono ?_
              clear HOPU
              rintro _ wV ⟨_, rfl, hBV, sbV, lbV, vrV, rfl, hsbV, hlbV, hlV⟩
              have hroV := srows_any sbV db lbV HU' vrV (foldA (foldA rS dsS) []) wV hlV.s hlV.r.at (by have := hlV.g.rows.most; omega)
              have HROV := Lib.hid hroV
              have HRWV := Lib.hid (fun (_ : Unit) => show foldA (foldA rS dsS) [] = foldA r2 ds2 from HXS.out.2.2.1)
              have HGV := Lib.hid (HGU.out.later hBV)
              have HBV := Lib.hid (HBU.out.trans (hBV.mono HBU.out.size))
              have HNV := Lib.hid (fun (_ : Unit) => hlV.g.rows.most)
              clear hBV hsbV hlbV hlV hroV
              go_wp2_with fail
              refine HROV.out.mono ?_
              clear HROV
              rintro _ wX ⟨vX, rfl, hoX, -, hBX⟩
              have hsmX := same_changes vX (.slice aog ng cg) (foldA (foldA rS dsS) []) (foldA r2 ds2) wX hoX.at (HGV.out.later hBX).at (by have := HNV.out (); omega)
              rw [(sameL_eq _ _).2 (HRWV.out ())] at hsmX
              have HSMX := Lib.hid hsmX
              have HBX := Lib.hid (HBV.out.trans (hBX.mono HBV.out.size))
              clear hoX hBX hsmX
              go_wp2_with fail
              refine HSMX.out.mono ?_
              rintro _ wY ⟨rfl, hBY⟩
              go_wp2_with fail
              go_ret
              exact Ret.of rfl (HBX.out.trans (hBY.mono HBX.out.size))
            · rw [hx] at HSM1
              clear hx
              go_wp2_with fail
              refine HSM1.out.mono ?_
              clear HSM1
              rintro _ w10 ⟨rfl, hB10⟩
              have HBR := Lib.hid hB10
              clear hB10
              have HG9 := Lib.hid (show ChgP (fun j => j ∉ sb2 :: lb2 :: Y5) w10 (.slice aog ng cg) (foldA r2 ds2) from HGOT.out.later HBR.out)
              have HL9 := Lib.hid (HLV2.out.later (HB98.out.trans (HBR.out.mono HB98.out.size)))
              have hcn : comF 110 (foldA r2 ds2) [] = 0 := comF_zero (by decide) rfl (by have := HL9.out.g.rows.most; show ¬ 64 < (foldA r2 ds2).length; omega) (by decide)
              have hcm := commit_good HL9.out (.slice none 0 0) [] ⟨none, 0, rfl, by unfold maxLen; decide, fun i c hc => by simp at hc⟩ (by decide) (by have := HBD.out (); omega) (by have := HBD.out (); omega)
              have HCN := Lib.hid (fun (_ : Unit) => hcn)
              have HCM := Lib.hid hcm
              clear hcn hcm
              go_wp2_with fail
              refine HCM.out.mono ?_
              clear HCM
              rintro _ wS ⟨vS, rfl, hcv⟩
              obtain ⟨rfl, lbS, YS, DS, HS, vrS, rS, LS', dsS, hlS, -, hrwS, hFS, hFrS, hepS, hftS, hrdS⟩ := hcv.done HRD.out (HCN.out ())
              have hckS := ck_good hlS (by have := HBD.out (); omega) (by have := HBD.out (); omega)
              have HCK := Lib.hid hckS
              have HGS := Lib.hid (HG9.out.go hFS hFrS)
              have hloS : ∀ j ∈ sb2 :: lbS :: YS, w.heap.size ≤ j := fun j hj => (hFrS j hj).elim (HLO2.out j) (fun g => Nat.le_trans (HBW9.out.trans (HBR.out.mono HBW9.out.size)).size g)
              have hbS : Below w.heap.size w wS := (HBW9.out.trans (HBR.out.mono HBW9.out.size)).trans (hFS.below (HBW9.out.trans (HBR.out.mono HBW9.out.size)).size HLO2.out)
              have HXS := Lib.hid (And.intro hloS (And.intro hbS (And.intro hrwS (And.intro hftS hrdS))))
              rw [show errV 0 = .nilIface from rfl]
              clear hcv hlS hrwS hFS hFrS hepS hftS hrdS hckS hloS hbS
              go_wp2_with fail
              refine HCK.out.mono ?_
              clear HCK
              rintro _ wU ⟨vU, rfl, hck⟩
              rcases hck with ⟨rfl, lbU, YU, DU, HU', hlU, hFU, hFrU, hepU, hftU, hrdU⟩ | ⟨-, hnr, -⟩
              case inr => exact absurd HXS.out.2.2.2.2 hnr
              have hopU := open_good (w := wU) hlU.d hlU.g hlU.up (by have := HBD.out (); have := HXS.out.2.2.2.1; omega)
              have HOPU := Lib.hid hopU
              have HGU := Lib.hid (HGS.out.go hFU hFrU)
              have HBU := Lib.hid (show Below w.heap.size w wU from HXS.out.2.1.trans (hFU.below HXS.out.2.1.size HXS.out.1))
              rw [show errV 0 = .nilIface from rfl]
              clear hlU hFU hFrU hepU hftU hrdU hopU
              go_wp2_with fail
              refine HOPU.out.mono ?_
              clear HOPU
              rintro _ wV ⟨_, rfl, hBV, sbV, lbV, vrV, rfl, hsbV, hlbV, hlV⟩
              have hroV := srows_any sbV db lbV HU' vrV (foldA (foldA rS dsS) []) wV hlV.s hlV.r.at (by have := hlV.g.rows.most; omega)
              have HROV := Lib.hid hroV
              have HRWV := Lib.hid (fun (_ : Unit) => show foldA (foldA rS dsS) [] = foldA r2 ds2 from HXS.out.2.2.1)
              have HGV := Lib.hid (HGU.out.later hBV)
              have HBV := Lib.hid (HBU.out.trans (hBV.mono HBU.out.size))
              have HNV := Lib.hid (fun (_ : Unit) => hlV.g.rows.most)
              clear hBV hsbV hlbV hlV hroV
              go_wp2_with fail
              refine HROV.out.mono ?_
              clear HROV
              rintro _ wX ⟨vX, rfl, hoX, -, hBX⟩
              have hsmX := same_changes vX (.slice aog ng cg) (foldA (foldA rS dsS) []) (foldA r2 ds2) wX hoX.at (HGV.out.later hBX).at (by have := HNV.out (); omega)
              rw [(sameL_eq _ _).2 (HRWV.out ())] at hsmX
              have HSMX := Lib.hid hsmX
              have HBX := Lib.hid (HBV.out.trans (hBX.mono HBV.out.size))
              clear hoX hBX hsmX
              go_wp2_with fail
              refine HSMX.out.mono ?_
              rintro _ wY ⟨rfl, hBY⟩
              go_wp2_with fail
              go_ret
              exact Ret.of rfl (HBX.out.trans (hBY.mono HBX.out.size))
        · have HTE := Lib.hid (show TE w w3 db Y3 D3 u10 u11 (foldA r0 ds) (foldA r0 ds) from by
            have h := HTL.out
            have hFr : Fresh wr (sb :: lb :: X) Y3 := fun j hj => (hY3 j hj).elim (fun g => .inl (by simp [g])) .inr
            exact ⟨hD3, fun j hj => (hFr j hj).elim (h.lo j) (fun g => Nat.le_trans h.below.size g), h.below.trans (hF3.below h.below.size h.lo), h.want.go hF3 hFr, h.last.go hF3 hFr, hw3, fun keep => by
              obtain ⟨H', r', L', ds', g1, g2, g3, g4⟩ := hk3 keep
              exact ⟨H', r', L', ds', g1, .inl g2, by have := h.ep; omega, by have := h.ft; omega⟩, by have := h.live.g.rows.most; omega⟩)
          have hnm := number_any 10 w3
          rw [show errV 10 = .iface 101 (.int .i64 10) from rfl] at hnm ⊢
          have HNM := Lib.hid hnm
          clear hD3 hY3 hF3 hw3 hk3 hnm HTL
          go_wp2_with fail
          refine HNM.out.mono ?_
          clear HNM
          rintro _ w4 ⟨rfl, rfl⟩
          clear h4' h4''
          have hrs := restart_any db Y3 D3 keep w3 HTE.out.d HTE.out.wait HK.out
          obtain ⟨H2, r2, L2, ds2, hg2, hor2, hb1, hb2⟩ := HTE.out.good keep
          have hR : (D3.restart keep).Ready := (restart_now D3 keep).2.2.2
          have HRS := Lib.hid hrs
          have HG2 := Lib.hid hg2
          have HRD := Lib.hid hR
          have HOR := Lib.hid (fun (_ : Unit) => hor2)
          have HBD := Lib.hid (fun (_ : Unit) => And.intro hb1 hb2)
          clear hrs hg2 hR hor2 hb1 hb2
          generalize D3.restart keep = E at *
          go_wp2_with fail
          refine HRS.out.mono ?_
          clear HRS
          rintro _ w7 ⟨rfl, hD7, hF7⟩
          have hop := open_good (w := w7) hD7 HG2.out HRD.out.1 (by have := HBD.out (); omega)
          have HOP := Lib.hid hop
          have HTE7 := Lib.hid (show Below w.heap.size w w7 ∧ ChgP (fun j => j ∉ Y3) w7 u10 (foldA r0 ds) ∧ ChgP (fun j => j ∉ Y3) w7 u11 (foldA r0 ds) from ⟨HTE.out.below.trans (hF7.below HTE.out.below.size HTE.out.lo), HTE.out.want.frame hF7 (fun _ h => h), HTE.out.last.frame hF7 (fun _ h => h)⟩)
          clear hD7 hF7 hop
          go_wp2_with fail
          refine HOP.out.mono ?_
          clear HOP
          rintro _ w8 ⟨_, rfl, hB8, sb2, lb2, vr2, rfl, hsb2, hlb2, hlv2⟩
          have HLO2 := Lib.hid (show ∀ j ∈ sb2 :: lb2 :: Y3, w.heap.size ≤ j from fun j hj => by
            have := HTE7.out.1.size
            rcases List.mem_cons.1 hj with rfl | hj
            · omega
            rcases List.mem_cons.1 hj with rfl | hj
            · omega
            · exact HTE.out.lo j hj)
          have HLV2 := Lib.hid hlv2
          have HW8 := Lib.hid (show Below w.heap.size w w8 ∧ ChgP (fun j => j ∉ Y3) w8 u10 (foldA r0 ds) ∧ ChgP (fun j => j ∉ Y3) w8 u11 (foldA r0 ds) from ⟨HTE7.out.1.trans (hB8.mono HTE7.out.1.size), HTE7.out.2.1.later hB8, HTE7.out.2.2.later hB8⟩)
          have hro := srows_any sb2 db lb2 H2 vr2 (foldA r2 ds2) w8 hlv2.s hlv2.r.at (by have := hlv2.g.rows.most; omega)
          have HRO := Lib.hid hro
          clear hB8 hsb2 hlb2 hlv2 hro HTE7
          go_wp2_with fail
          refine HRO.out.mono ?_
          clear HRO
          rintro _ w9 ⟨v9, rfl, ho9, hk9, hB9⟩
          obtain ⟨aog, cg, rfl⟩ := owns_form ho9
          have HGOT := Lib.hid (show ChgP (fun j => j ∉ sb2 :: lb2 :: Y3) w9 (.slice aog (foldA r2 ds2).length cg) (foldA r2 ds2) from (ChgP.of_owns ho9).mono (fun j _ hj hm => by have := hk9 j hj; have := HLV2.out.lt j hm; omega))
          have HB98 := Lib.hid hB9
          have HBW9 := Lib.hid (show Below w.heap.size w w9 from HW8.out.1.trans (hB9.mono HW8.out.1.size))
          obtain ⟨ng, hng⟩ : ∃ ng, ng = (foldA r2 ds2).length := ⟨_, rfl⟩
          have HNG := Lib.hid (fun (_ : Unit) => show (foldA r2 ds2).length ≤ 1000 by have := HLV2.out.g.rows.most; omega)
          rw [← hng] at HGOT ⊢
          have hsm1 := same_changes (.slice aog ng cg) u10 (foldA r2 ds2) (foldA r0 ds) w9 HGOT.out.at (HW8.out.2.1.later hB9).at (HNG.out ())
          have HSM1 := Lib.hid hsm1
          have hsm2 := fun w' (hb : Below w9.heap.size w9 w') => same_changes (.slice aog ng cg) u11 (foldA r2 ds2) (foldA r0 ds) w' (HGOT.out.later hb).at ((HW8.out.2.2.later hB9).later hb).at (HNG.out ())
          have HSM2 := Lib.hid hsm2
          clear ho9 hk9 hB9 hng hsm1 hsm2
          cases hx : sameL (foldA r2 ds2) (foldA r0 ds)
          · have hx2 : sameL (foldA r2 ds2) (foldA r0 ds) = true := by
              rcases HOR.out () with h | h
              · rw [(sameL_eq _ _).2 h] at hx
                cases hx
              · exact (sameL_eq _ _).2 h
            rw [hx] at HSM1
            rw [hx2] at HSM2
            clear hx hx2
            go_wp2_with fail
            refine HSM1.out.mono ?_
            clear HSM1
            rintro _ w10 ⟨rfl, hB10⟩
            have HB10 := Lib.hid hB10
            clear hB10
            go_wp2_with fail
            refine (HSM2.out w10 HB10.out).mono ?_
            clear HSM2
            rintro _ w11 ⟨rfl, hB11⟩
            have HBR := Lib.hid (show Below w9.heap.size w9 w11 from HB10.out.trans (hB11.mono HB10.out.size))
            clear hB11
            have HG9 := Lib.hid (show ChgP (fun j => j ∉ sb2 :: lb2 :: Y3) w11 (.slice aog ng cg) (foldA r2 ds2) from HGOT.out.later HBR.out)
            have HL9 := Lib.hid (HLV2.out.later (HB98.out.trans (HBR.out.mono HB98.out.size)))
            have hcn : comF 110 (foldA r2 ds2) [] = 0 := comF_zero (by decide) rfl (by have := HL9.out.g.rows.most; show ¬ 64 < (foldA r2 ds2).length; omega) (by decide)
            have hcm := commit_good HL9.out (.slice none 0 0) [] ⟨none, 0, rfl, by unfold maxLen; decide, fun i c hc => by simp at hc⟩ (by decide) (by have := HBD.out (); omega) (by have := HBD.out (); omega)
            have HCN := Lib.hid (fun (_ : Unit) => hcn)
            have HCM := Lib.hid hcm
            clear hcn hcm
            go_wp2_with fail
            refine HCM.out.mono ?_
            clear HCM
            rintro _ wS ⟨vS, rfl, hcv⟩
            obtain ⟨rfl, lbS, YS, DS, HS, vrS, rS, LS', dsS, hlS, -, hrwS, hFS, hFrS, hepS, hftS, hrdS⟩ := hcv.done HRD.out (HCN.out ())
            have hckS := ck_good hlS (by have := HBD.out (); omega) (by have := HBD.out (); omega)
            have HCK := Lib.hid hckS
            have HGS := Lib.hid (HG9.out.go hFS hFrS)
            have hloS : ∀ j ∈ sb2 :: lbS :: YS, w.heap.size ≤ j := fun j hj => (hFrS j hj).elim (HLO2.out j) (fun g => Nat.le_trans (HBW9.out.trans (HBR.out.mono HBW9.out.size)).size g)
            have hbS : Below w.heap.size w wS := (HBW9.out.trans (HBR.out.mono HBW9.out.size)).trans (hFS.below (HBW9.out.trans (HBR.out.mono HBW9.out.size)).size HLO2.out)
            have HXS := Lib.hid (And.intro hloS (And.intro hbS (And.intro hrwS (And.intro hftS hrdS))))
            rw [show errV 0 = .nilIface from rfl]
            clear hcv hlS hrwS hFS hFrS hepS hftS hrdS hckS hloS hbS
            go_wp2_with fail
            refine HCK.out.mono ?_
            clear HCK
            rintro _ wU ⟨vU, rfl, hck⟩
            rcases hck with ⟨rfl, lbU, YU, DU, HU', hlU, hFU, hFrU, hepU, hftU, hrdU⟩ | ⟨-, hnr, -⟩
            case inr => exact absurd HXS.out.2.2.2.2 hnr
            have hopU := open_good (w := wU) hlU.d hlU.g hlU.up (by have := HBD.out (); have := HXS.out.2.2.2.1; omega)
            have HOPU := Lib.hid hopU
            have HGU := Lib.hid (HGS.out.go hFU hFrU)
            have HBU := Lib.hid (show Below w.heap.size w wU from HXS.out.2.1.trans (hFU.below HXS.out.2.1.size HXS.out.1))
            rw [show errV 0 = .nilIface from rfl]
            clear hlU hFU hFrU hepU hftU hrdU hopU
            go_wp2_with fail
            refine HOPU.out.mono ?_
            clear HOPU
            rintro _ wV ⟨_, rfl, hBV, sbV, lbV, vrV, rfl, hsbV, hlbV, hlV⟩
            have hroV := srows_any sbV db lbV HU' vrV (foldA (foldA rS dsS) []) wV hlV.s hlV.r.at (by have := hlV.g.rows.most; omega)
            have HROV := Lib.hid hroV
            have HRWV := Lib.hid (fun (_ : Unit) => show foldA (foldA rS dsS) [] = foldA r2 ds2 from HXS.out.2.2.1)
            have HGV := Lib.hid (HGU.out.later hBV)
            have HBV := Lib.hid (HBU.out.trans (hBV.mono HBU.out.size))
            have HNV := Lib.hid (fun (_ : Unit) => hlV.g.rows.most)
            clear hBV hsbV hlbV hlV hroV
            go_wp2_with fail
            refine HROV.out.mono ?_
            clear HROV
            rintro _ wX ⟨vX, rfl, hoX, -, hBX⟩
            have hsmX := same_changes vX (.slice aog ng cg) (foldA (foldA rS dsS) []) (foldA r2 ds2) wX hoX.at (HGV.out.later hBX).at (by have := HNV.out (); omega)
            rw [(sameL_eq _ _).2 (HRWV.out ())] at hsmX
            have HSMX := Lib.hid hsmX
            have HBX := Lib.hid (HBV.out.trans (hBX.mono HBV.out.size))
            clear hoX hBX hsmX
            go_wp2_with fail
            refine HSMX.out.mono ?_
            rintro _ wY ⟨rfl, hBY⟩
            go_wp2_with fail
            go_ret
            exact Ret.of rfl (HBX.out.trans (hBY.mono HBX.out.size))
          · rw [hx] at HSM1
            clear hx
            go_wp2_with fail
            refine HSM1.out.mono ?_
            clear HSM1
            rintro _ w10 ⟨rfl, hB10⟩
            have HBR := Lib.hid hB10
            clear hB10
            have HG9 := Lib.hid (show ChgP (fun j => j ∉ sb2 :: lb2 :: Y3) w10 (.slice aog ng cg) (foldA r2 ds2) from HGOT.out.later HBR.out)
            have HL9 := Lib.hid (HLV2.out.later (HB98.out.trans (HBR.out.mono HB98.out.size)))
            have hcn : comF 110 (foldA r2 ds2) [] = 0 := comF_zero (by decide) rfl (by have := HL9.out.g.rows.most; show ¬ 64 < (foldA r2 ds2).length; omega) (by decide)
            have hcm := commit_good HL9.out (.slice none 0 0) [] ⟨none, 0, rfl, by unfold maxLen; decide, fun i c hc => by simp at hc⟩ (by decide) (by have := HBD.out (); omega) (by have := HBD.out (); omega)
            have HCN := Lib.hid (fun (_ : Unit) => hcn)
            have HCM := Lib.hid hcm
            clear hcn hcm
            go_wp2_with fail
            refine HCM.out.mono ?_
            clear HCM
            rintro _ wS ⟨vS, rfl, hcv⟩
            obtain ⟨rfl, lbS, YS, DS, HS, vrS, rS, LS', dsS, hlS, -, hrwS, hFS, hFrS, hepS, hftS, hrdS⟩ := hcv.done HRD.out (HCN.out ())
            have hckS := ck_good hlS (by have := HBD.out (); omega) (by have := HBD.out (); omega)
            have HCK := Lib.hid hckS
            have HGS := Lib.hid (HG9.out.go hFS hFrS)
            have hloS : ∀ j ∈ sb2 :: lbS :: YS, w.heap.size ≤ j := fun j hj => (hFrS j hj).elim (HLO2.out j) (fun g => Nat.le_trans (HBW9.out.trans (HBR.out.mono HBW9.out.size)).size g)
            have hbS : Below w.heap.size w wS := (HBW9.out.trans (HBR.out.mono HBW9.out.size)).trans (hFS.below (HBW9.out.trans (HBR.out.mono HBW9.out.size)).size HLO2.out)
            have HXS := Lib.hid (And.intro hloS (And.intro hbS (And.intro hrwS (And.intro hftS hrdS))))
            rw [show errV 0 = .nilIface from rfl]
            clear hcv hlS hrwS hFS hFrS hepS hftS hrdS hckS hloS hbS
            go_wp2_with fail
            refine HCK.out.mono ?_
            clear HCK
            rintro _ wU ⟨vU, rfl, hck⟩
            rcases hck with ⟨rfl, lbU, YU, DU, HU', hlU, hFU, hFrU, hepU, hftU, hrdU⟩ | ⟨-, hnr, -⟩
            case inr => exact absurd HXS.out.2.2.2.2 hnr
            have hopU := open_good (w := wU) hlU.d hlU.g hlU.up (by have := HBD.out (); have := HXS.out.2.2.2.1; omega)
            have HOPU := Lib.hid hopU
            have HGU := Lib.hid (HGS.out.go hFU hFrU)
            have HBU := Lib.hid (show Below w.heap.size w wU from HXS.out.2.1.trans (hFU.below HXS.out.2.1.size HXS.out.1))
            rw [show errV 0 = .nilIface from rfl]
            clear hlU hFU hFrU hepU hftU hrdU hopU
            go_wp2_with fail
            refine HOPU.out.mono ?_
            clear HOPU
            rintro _ wV ⟨_, rfl, hBV, sbV, lbV, vrV, rfl, hsbV, hlbV, hlV⟩
            have hroV := srows_any sbV db lbV HU' vrV (foldA (foldA rS dsS) []) wV hlV.s hlV.r.at (by have := hlV.g.rows.most; omega)
            have HROV := Lib.hid hroV
            have HRWV := Lib.hid (fun (_ : Unit) => show foldA (foldA rS dsS) [] = foldA r2 ds2 from HXS.out.2.2.1)
            have HGV := Lib.hid (HGU.out.later hBV)
            have HBV := Lib.hid (HBU.out.trans (hBV.mono HBU.out.size))
            have HNV := Lib.hid (fun (_ : Unit) => hlV.g.rows.most)
            clear hBV hsbV hlbV hlV hroV
            go_wp2_with fail
            refine HROV.out.mono ?_
            clear HROV
            rintro _ wX ⟨vX, rfl, hoX, -, hBX⟩
            have hsmX := same_changes vX (.slice aog ng cg) (foldA (foldA rS dsS) []) (foldA r2 ds2) wX hoX.at (HGV.out.later hBX).at (by have := HNV.out (); omega)
            rw [(sameL_eq _ _).2 (HRWV.out ())] at hsmX
            have HSMX := Lib.hid hsmX
            have HBX := Lib.hid (HBV.out.trans (hBX.mono HBV.out.size))
            clear hoX hBX hsmX
            go_wp2_with fail
            refine HSMX.out.mono ?_
            rintro _ wY ⟨rfl, hBY⟩
            go_wp2_with fail
            go_ret
            exact Ret.of rfl (HBX.out.trans (hBY.mono HBX.out.size))
      · have h4' : ((k : Int) % 5 == 4) = false := by rw [← Bool.not_eq_true, beq_iff_eq]; omega
        have h4'' : ((k : Int) % 5 = 4) = False := eq_false (by omega)
        clear h4
        have cU := (HTL.out.below.cell (World.block_lt_of_cell? w _ HC0.out)).trans HC0.out
        have HUW := Lib.hid (show ChgP (fun j => j ∉ sb :: lb :: X) wr (.slice aou dn capu) d from (HU.out.mono (fun j _ hj hm => by have := HTL.out.lo j hm; omega)).later HTL.out.below)
        have hcm := commit_good HTL.out.live (.slice aou dn capu) d HUW.out (by have := HDN.out (); omega) (by have := HTL.out.ep; omega) (by have := HTL.out.ft; omega)
        have HCM := Lib.hid hcm
        clear hcm
        go_wp2_with fail
        refine HCM.out.mono ?_
        clear HCM
        rintro _ w5 ⟨v5, rfl, hcv⟩
        clear cU
        rcases hcv with ⟨hf0, rfl, hB5⟩ | ⟨hf0, rfl, lb5, Y5, D5, H5, vr5, r5, L5, ds5, hl5, -, hrw5, hF5, hFr5, hep5, hft5, -⟩ | ⟨hf0, rfl, -, Y5, D5, hD5, hY5, hF5, hw5, hk5⟩
        · have hne := comF_ne 110 (foldA r0 ds) d
          have HT5 := Lib.hid ((HTL.out.later hB5).mono (show 2 * k ≤ 2 * (k + 1) by omega))
          generalize comF 110 (foldA r0 ds) d = f at *
          have hnm := number_any f w5
          rw [show errV f = .iface 101 (.int .i64 (f : Int)) by simp [errV, hf0]] at hnm ⊢
          have HNM := Lib.hid hnm
          have hf10 : ¬ (f : Int) = 10 := by omega
          have hf10b : ((f : Int) == 10) = false := by simpa using hf10
          clear hf0 hne hB5 hnm
          go_wp2_with fail
          refine HNM.out.mono ?_
          rintro _ w6 ⟨rfl, rfl⟩
          go_wp2_with fail
          exact ⟨⟨k + 1, lb, X, D, H, vr, r0, L, ds, by omega, by go_num, HT5⟩, by simp [intOf]; omega⟩
        · have hB5 : Below w.heap.size w w5 := HTL.out.below.trans (hF5.below HTL.out.below.size HTL.out.lo)
          have hlo5 : ∀ j ∈ sb :: lb5 :: Y5, w.heap.size ≤ j := fun j hj => (hFr5 j hj).elim (HTL.out.lo j) (fun g => Nat.le_trans HTL.out.below.size g)
          have cU := (hB5.cell (World.block_lt_of_cell? w _ HC0.out)).trans HC0.out
          have HW5 := Lib.hid (HTL.out.want.go hF5 hFr5)
          have HU5 := Lib.hid (HUW.out.go hF5 hFr5)
          have hap := applied_any u10 (.slice aou dn capu) (foldA r0 ds) d w5 HW5.out.at HU5.out.at HTL.out.live.g.rows.rise (by have := HDN.out (); have := HTL.out.live.g.rows.most; omega)
          rw [refL_applyL d _ HTL.out.live.g.rows.rise] at hap
          have HAP := Lib.hid hap
          have HX5 := Lib.hid (And.intro hl5 (And.intro hrw5 (And.intro hep5 (And.intro hft5 (And.intro hlo5 hB5)))))
          rw [show errV 0 = .nilIface from rfl]
          clear hf0 hl5 hrw5 hF5 hFr5 hep5 hft5 hlo5 hB5 hap
          go_wp2_with fail
          refine HAP.out.mono ?_
          clear HAP
          rintro _ w6 ⟨v6, rfl, ho6, hB6⟩
          have HT6 := Lib.hid (show TC w w6 (2 * (k + 1)) db sb lb5 Y5 D5 H5 vr5 r5 L5 ds5 v6 v6 from by
            obtain ⟨hl5, hrw5, hep5, hft5, hlo5, hB5⟩ := HX5.out
            have hch : ChgP (fun j => j ∉ sb :: lb5 :: Y5) w6 v6 (foldA r5 ds5) := by
              rw [hrw5]
              exact (ChgP.of_owns ho6).mono (fun j _ hj hm => by have := (World.ownsRow.lt ho6 j hj).1; have := hl5.lt j hm; omega)
            exact ⟨hl5.later hB6, hlo5, hB5.trans (hB6.mono hB5.size), hch, hch, by have := HTL.out.ep; omega, by have := HTL.out.ft; omega⟩)
          clear ho6 hB6 cU
          go_wp2_with fail
          exact ⟨⟨k + 1, lb5, Y5, D5, H5, vr5, r5, L5, ds5, by omega, by go_num, HT6⟩, by simp [intOf]; omega⟩
        · have hB5 : Below w.heap.size w w5 := HTL.out.below.trans (hF5.below HTL.out.below.size HTL.out.lo)
          have hlo5 : ∀ j ∈ Y5, w.heap.size ≤ j := fun j hj => (hY5 j hj).elim (HTL.out.lo j) (fun g => Nat.le_trans HTL.out.below.size g)
          have cU := (hB5.cell (World.block_lt_of_cell? w _ HC0.out)).trans HC0.out
          have HW5 := Lib.hid (HTL.out.want.go hF5 hY5)
          have HU5 := Lib.hid (HUW.out.go hF5 hY5)
          have hap := applied_any u10 (.slice aou dn capu) (foldA r0 ds) d w5 HW5.out.at HU5.out.at HTL.out.live.g.rows.rise (by have := HDN.out (); have := HTL.out.live.g.rows.most; omega)
          rw [refL_applyL d _ HTL.out.live.g.rows.rise] at hap
          have HAP := Lib.hid hap
          have HX5 := Lib.hid (show DiskAt w5 107 111 db Y5 D5 ∧ (∀ j ∈ Y5, w.heap.size ≤ j) ∧ Below w.heap.size w w5 ∧ D5.wait.length < 10000 ∧ ∀ keep, ∃ H r0' L ds', StoGood (D5.restart keep) 110 H r0' L ds' ∧ (foldA r0' ds' = foldA r0 ds ∨ foldA r0' ds' = applyL (foldA r0 ds) d) ∧ H.epoch ≤ 1000 ∧ H.first ≤ 10000 from
            ⟨hD5, hlo5, hB5, hw5, fun keep => by
              obtain ⟨H', r', L', ds', g1, g2, g3, g4⟩ := hk5 keep
              exact ⟨H', r', L', ds', g1, g2, by have := HTL.out.ep; omega, by have := HTL.out.ft; omega⟩⟩)
          have hnm := number_any 10 w5
          rw [show errV 10 = .iface 101 (.int .i64 10) from rfl] at hnm ⊢
          have HNM := Lib.hid hnm
          clear hf0 hD5 hY5 hF5 hw5 hk5 hB5 hlo5 hap hnm
          go_wp2_with fail
          refine HNM.out.mono ?_
          clear HNM
          rintro _ w6 ⟨rfl, rfl⟩
          go_wp2_with fail
          refine HAP.out.mono ?_
          clear HAP
          rintro _ w6 ⟨v6, rfl, ho6, hB6⟩
          have HTE := Lib.hid (show TE w w6 db Y5 D5 u10 v6 (foldA r0 ds) (applyL (foldA r0 ds) d) from by
            obtain ⟨hD5, hlo5, hB5, hw5, hk5⟩ := HX5.out
            exact ⟨hD5.frame (Frame.of_below [] hB6) (by simp), hlo5, hB5.trans (hB6.mono hB5.size), HW5.out.later hB6, (ChgP.of_owns ho6).mono (fun j _ hj hm => by have := (World.ownsRow.lt ho6 j hj).1; have := hD5.lt j hm; omega), hw5, hk5, by have := HTL.out.live.g.rows.most; omega⟩)
          clear ho6 hB6 cU HX5 HW5 HU5 HUW
          have hrs := restart_any db Y5 D5 keep w6 HTE.out.d HTE.out.wait HK.out
          obtain ⟨H2, r2, L2, ds2, hg2, hor2, hb1, hb2⟩ := HTE.out.good keep
          have hR : (D5.restart keep).Ready := (restart_now D5 keep).2.2.2
          have HRS := Lib.hid hrs
          have HG2 := Lib.hid hg2
          have HRD := Lib.hid hR
          have HOR := Lib.hid (fun (_ : Unit) => hor2)
          have HBD := Lib.hid (fun (_ : Unit) => And.intro hb1 hb2)
          clear hrs hg2 hR hor2 hb1 hb2
          generalize D5.restart keep = E at *
          go_wp2_with fail
          refine HRS.out.mono ?_
          clear HRS
          rintro _ w7 ⟨rfl, hD7, hF7⟩
          have hop := open_good (w := w7) hD7 HG2.out HRD.out.1 (by have := HBD.out (); omega)
          have HOP := Lib.hid hop
          have HTE7 := Lib.hid (show Below w.heap.size w w7 ∧ ChgP (fun j => j ∉ Y5) w7 u10 (foldA r0 ds) ∧ ChgP (fun j => j ∉ Y5) w7 v6 (applyL (foldA r0 ds) d) from ⟨HTE.out.below.trans (hF7.below HTE.out.below.size HTE.out.lo), HTE.out.want.frame hF7 (fun _ h => h), HTE.out.last.frame hF7 (fun _ h => h)⟩)
          clear hD7 hF7 hop
          go_wp2_with fail
          refine HOP.out.mono ?_
          clear HOP
          rintro _ w8 ⟨_, rfl, hB8, sb2, lb2, vr2, rfl, hsb2, hlb2, hlv2⟩
          have HLO2 := Lib.hid (show ∀ j ∈ sb2 :: lb2 :: Y5, w.heap.size ≤ j from fun j hj => by
            have := HTE7.out.1.size
            rcases List.mem_cons.1 hj with rfl | hj
            · omega
            rcases List.mem_cons.1 hj with rfl | hj
            · omega
            · exact HTE.out.lo j hj)
          have HLV2 := Lib.hid hlv2
          have HW8 := Lib.hid (show Below w.heap.size w w8 ∧ ChgP (fun j => j ∉ Y5) w8 u10 (foldA r0 ds) ∧ ChgP (fun j => j ∉ Y5) w8 v6 (applyL (foldA r0 ds) d) from ⟨HTE7.out.1.trans (hB8.mono HTE7.out.1.size), HTE7.out.2.1.later hB8, HTE7.out.2.2.later hB8⟩)
          have hro := srows_any sb2 db lb2 H2 vr2 (foldA r2 ds2) w8 hlv2.s hlv2.r.at (by have := hlv2.g.rows.most; omega)
          have HRO := Lib.hid hro
          clear hB8 hsb2 hlb2 hlv2 hro HTE7
          go_wp2_with fail
          refine HRO.out.mono ?_
          clear HRO
          rintro _ w9 ⟨v9, rfl, ho9, hk9, hB9⟩
          obtain ⟨aog, cg, rfl⟩ := owns_form ho9
          have HGOT := Lib.hid (show ChgP (fun j => j ∉ sb2 :: lb2 :: Y5) w9 (.slice aog (foldA r2 ds2).length cg) (foldA r2 ds2) from (ChgP.of_owns ho9).mono (fun j _ hj hm => by have := hk9 j hj; have := HLV2.out.lt j hm; omega))
          have HB98 := Lib.hid hB9
          have HBW9 := Lib.hid (show Below w.heap.size w w9 from HW8.out.1.trans (hB9.mono HW8.out.1.size))
          obtain ⟨ng, hng⟩ : ∃ ng, ng = (foldA r2 ds2).length := ⟨_, rfl⟩
          have HNG := Lib.hid (fun (_ : Unit) => show (foldA r2 ds2).length ≤ 1000 by have := HLV2.out.g.rows.most; omega)
          rw [← hng] at HGOT ⊢
          have hsm1 := same_changes (.slice aog ng cg) u10 (foldA r2 ds2) (foldA r0 ds) w9 HGOT.out.at (HW8.out.2.1.later hB9).at (HNG.out ())
          have HSM1 := Lib.hid hsm1
          have hsm2 := fun w' (hb : Below w9.heap.size w9 w') => same_changes (.slice aog ng cg) v6 (foldA r2 ds2) (applyL (foldA r0 ds) d) w' (HGOT.out.later hb).at ((HW8.out.2.2.later hB9).later hb).at (HNG.out ())
          have HSM2 := Lib.hid hsm2
          clear ho9 hk9 hB9 hng hsm1 hsm2
          cases hx : sameL (foldA r2 ds2) (foldA r0 ds)
          · have hx2 : sameL (foldA r2 ds2) (applyL (foldA r0 ds) d) = true := by
              rcases HOR.out () with h | h
              · rw [(sameL_eq _ _).2 h] at hx
                cases hx
              · exact (sameL_eq _ _).2 h
            rw [hx] at HSM1
            rw [hx2] at HSM2
            clear hx hx2
            go_wp2_with fail
            refine HSM1.out.mono ?_
            clear HSM1
            rintro _ w10 ⟨rfl, hB10⟩
            have HB10 := Lib.hid hB10
            clear hB10
            go_wp2_with fail
            refine (HSM2.out w10 HB10.out).mono ?_
            clear HSM2
            rintro _ w11 ⟨rfl, hB11⟩
            have HBR := Lib.hid (show Below w9.heap.size w9 w11 from HB10.out.trans (hB11.mono HB10.out.size))
            clear hB11
            have HG9 := Lib.hid (show ChgP (fun j => j ∉ sb2 :: lb2 :: Y5) w11 (.slice aog ng cg) (foldA r2 ds2) from HGOT.out.later HBR.out)
            have HL9 := Lib.hid (HLV2.out.later (HB98.out.trans (HBR.out.mono HB98.out.size)))
            have hcn : comF 110 (foldA r2 ds2) [] = 0 := comF_zero (by decide) rfl (by have := HL9.out.g.rows.most; show ¬ 64 < (foldA r2 ds2).length; omega) (by decide)
            have hcm := commit_good HL9.out (.slice none 0 0) [] ⟨none, 0, rfl, by unfold maxLen; decide, fun i c hc => by simp at hc⟩ (by decide) (by have := HBD.out (); omega) (by have := HBD.out (); omega)
            have HCN := Lib.hid (fun (_ : Unit) => hcn)
            have HCM := Lib.hid hcm
            clear hcn hcm
            go_wp2_with fail
            refine HCM.out.mono ?_
            clear HCM
            rintro _ wS ⟨vS, rfl, hcv⟩
            obtain ⟨rfl, lbS, YS, DS, HS, vrS, rS, LS', dsS, hlS, -, hrwS, hFS, hFrS, hepS, hftS, hrdS⟩ := hcv.done HRD.out (HCN.out ())
            have hckS := ck_good hlS (by have := HBD.out (); omega) (by have := HBD.out (); omega)
            have HCK := Lib.hid hckS
            have HGS := Lib.hid (HG9.out.go hFS hFrS)
            have hloS : ∀ j ∈ sb2 :: lbS :: YS, w.heap.size ≤ j := fun j hj => (hFrS j hj).elim (HLO2.out j) (fun g => Nat.le_trans (HBW9.out.trans (HBR.out.mono HBW9.out.size)).size g)
            have hbS : Below w.heap.size w wS := (HBW9.out.trans (HBR.out.mono HBW9.out.size)).trans (hFS.below (HBW9.out.trans (HBR.out.mono HBW9.out.size)).size HLO2.out)
            have HXS := Lib.hid (And.intro hloS (And.intro hbS (And.intro hrwS (And.intro hftS hrdS))))
            rw [show errV 0 = .nilIface from rfl]
            clear hcv hlS hrwS hFS hFrS hepS hftS hrdS hckS hloS hbS
            go_wp2_with fail
            refine HCK.out.mono ?_
            clear HCK
            rintro _ wU ⟨vU, rfl, hck⟩
            rcases hck with ⟨rfl, lbU, YU, DU, HU', hlU, hFU, hFrU, hepU, hftU, hrdU⟩ | ⟨-, hnr, -⟩
            case inr => exact absurd HXS.out.2.2.2.2 hnr
            have hopU := open_good (w := wU) hlU.d hlU.g hlU.up (by have := HBD.out (); have := HXS.out.2.2.2.1; omega)
            have HOPU := Lib.hid hopU
            have HGU := Lib.hid (HGS.out.go hFU hFrU)
            have HBU := Lib.hid (show Below w.heap.size w wU from HXS.out.2.1.trans (hFU.below HXS.out.2.1.size HXS.out.1))
            rw [show errV 0 = .nilIface from rfl]
            clear hlU hFU hFrU hepU hftU hrdU hopU
            go_wp2_with fail
            refine HOPU.out.mono ?_
            clear HOPU
            rintro _ wV ⟨_, rfl, hBV, sbV, lbV, vrV, rfl, hsbV, hlbV, hlV⟩
            have hroV := srows_any sbV db lbV HU' vrV (foldA (foldA rS dsS) []) wV hlV.s hlV.r.at (by have := hlV.g.rows.most; omega)
            have HROV := Lib.hid hroV
            have HRWV := Lib.hid (fun (_ : Unit) => show foldA (foldA rS dsS) [] = foldA r2 ds2 from HXS.out.2.2.1)
            have HGV := Lib.hid (HGU.out.later hBV)
            have HBV := Lib.hid (HBU.out.trans (hBV.mono HBU.out.size))
            have HNV := Lib.hid (fun (_ : Unit) => hlV.g.rows.most)
            clear hBV hsbV hlbV hlV hroV
            go_wp2_with fail
            refine HROV.out.mono ?_
            clear HROV
            rintro _ wX ⟨vX, rfl, hoX, -, hBX⟩
            have hsmX := same_changes vX (.slice aog ng cg) (foldA (foldA rS dsS) []) (foldA r2 ds2) wX hoX.at (HGV.out.later hBX).at (by have := HNV.out (); omega)
            rw [(sameL_eq _ _).2 (HRWV.out ())] at hsmX
            have HSMX := Lib.hid hsmX
            have HBX := Lib.hid (HBV.out.trans (hBX.mono HBV.out.size))
            clear hoX hBX hsmX
            go_wp2_with fail
            refine HSMX.out.mono ?_
            rintro _ wY ⟨rfl, hBY⟩
            go_wp2_with fail
            go_ret
            exact Ret.of rfl (HBX.out.trans (hBY.mono HBX.out.size))
          · rw [hx] at HSM1
            clear hx
            go_wp2_with fail
            refine HSM1.out.mono ?_
            clear HSM1
            rintro _ w10 ⟨rfl, hB10⟩
            have HBR := Lib.hid hB10
            clear hB10
            have HG9 := Lib.hid (show ChgP (fun j => j ∉ sb2 :: lb2 :: Y5) w10 (.slice aog ng cg) (foldA r2 ds2) from HGOT.out.later HBR.out)
            have HL9 := Lib.hid (HLV2.out.later (HB98.out.trans (HBR.out.mono HB98.out.size)))
            have hcn : comF 110 (foldA r2 ds2) [] = 0 := comF_zero (by decide) rfl (by have := HL9.out.g.rows.most; show ¬ 64 < (foldA r2 ds2).length; omega) (by decide)
            have hcm := commit_good HL9.out (.slice none 0 0) [] ⟨none, 0, rfl, by unfold maxLen; decide, fun i c hc => by simp at hc⟩ (by decide) (by have := HBD.out (); omega) (by have := HBD.out (); omega)
            have HCN := Lib.hid (fun (_ : Unit) => hcn)
            have HCM := Lib.hid hcm
            clear hcn hcm
            go_wp2_with fail
            refine HCM.out.mono ?_
            clear HCM
            rintro _ wS ⟨vS, rfl, hcv⟩
            obtain ⟨rfl, lbS, YS, DS, HS, vrS, rS, LS', dsS, hlS, -, hrwS, hFS, hFrS, hepS, hftS, hrdS⟩ := hcv.done HRD.out (HCN.out ())
            have hckS := ck_good hlS (by have := HBD.out (); omega) (by have := HBD.out (); omega)
            have HCK := Lib.hid hckS
            have HGS := Lib.hid (HG9.out.go hFS hFrS)
            have hloS : ∀ j ∈ sb2 :: lbS :: YS, w.heap.size ≤ j := fun j hj => (hFrS j hj).elim (HLO2.out j) (fun g => Nat.le_trans (HBW9.out.trans (HBR.out.mono HBW9.out.size)).size g)
            have hbS : Below w.heap.size w wS := (HBW9.out.trans (HBR.out.mono HBW9.out.size)).trans (hFS.below (HBW9.out.trans (HBR.out.mono HBW9.out.size)).size HLO2.out)
            have HXS := Lib.hid (And.intro hloS (And.intro hbS (And.intro hrwS (And.intro hftS hrdS))))
            rw [show errV 0 = .nilIface from rfl]
            clear hcv hlS hrwS hFS hFrS hepS hftS hrdS hckS hloS hbS
            go_wp2_with fail
            refine HCK.out.mono ?_
            clear HCK
            rintro _ wU ⟨vU, rfl, hck⟩
            rcases hck with ⟨rfl, lbU, YU, DU, HU', hlU, hFU, hFrU, hepU, hftU, hrdU⟩ | ⟨-, hnr, -⟩
            case inr => exact absurd HXS.out.2.2.2.2 hnr
            have hopU := open_good (w := wU) hlU.d hlU.g hlU.up (by have := HBD.out (); have := HXS.out.2.2.2.1; omega)
            have HOPU := Lib.hid hopU
            have HGU := Lib.hid (HGS.out.go hFU hFrU)
            have HBU := Lib.hid (show Below w.heap.size w wU from HXS.out.2.1.trans (hFU.below HXS.out.2.1.size HXS.out.1))
            rw [show errV 0 = .nilIface from rfl]
            clear hlU hFU hFrU hepU hftU hrdU hopU
            go_wp2_with fail
            refine HOPU.out.mono ?_
            clear HOPU
            rintro _ wV ⟨_, rfl, hBV, sbV, lbV, vrV, rfl, hsbV, hlbV, hlV⟩
            have hroV := srows_any sbV db lbV HU' vrV (foldA (foldA rS dsS) []) wV hlV.s hlV.r.at (by have := hlV.g.rows.most; omega)
            have HROV := Lib.hid hroV
            have HRWV := Lib.hid (fun (_ : Unit) => show foldA (foldA rS dsS) [] = foldA r2 ds2 from HXS.out.2.2.1)
            have HGV := Lib.hid (HGU.out.later hBV)
            have HBV := Lib.hid (HBU.out.trans (hBV.mono HBU.out.size))
            have HNV := Lib.hid (fun (_ : Unit) => hlV.g.rows.most)
            clear hBV hsbV hlbV hlV hroV
            go_wp2_with fail
            refine HROV.out.mono ?_
            clear HROV
            rintro _ wX ⟨vX, rfl, hoX, -, hBX⟩
            have hsmX := same_changes vX (.slice aog ng cg) (foldA (foldA rS dsS) []) (foldA r2 ds2) wX hoX.at (HGV.out.later hBX).at (by have := HNV.out (); omega)
            rw [(sameL_eq _ _).2 (HRWV.out ())] at hsmX
            have HSMX := Lib.hid hsmX
            have HBX := Lib.hid (HBV.out.trans (hBX.mono HBV.out.size))
            clear hoX hBX hsmX
            go_wp2_with fail
            refine HSMX.out.mono ?_
            rintro _ wY ⟨rfl, hBY⟩
            go_wp2_with fail
            go_ret
            exact Ret.of rfl (HBX.out.trans (hBY.mono HBX.out.size))
    · obtain rfl : k = n := by omega
      clear hlt
      have HTE := Lib.hid (HTL.out.end (by omega))
      clear HTL
      have hrs := restart_any db X D keep wr HTE.out.d HTE.out.wait HK.out
      obtain ⟨H2, r2, L2, ds2, hg2, hor2, hb1, hb2⟩ := HTE.out.good keep
      have hR : (D.restart keep).Ready := (restart_now D keep).2.2.2
      have HRS := Lib.hid hrs
      have HG2 := Lib.hid hg2
      have HRD := Lib.hid hR
      have HOR := Lib.hid (fun (_ : Unit) => hor2)
      have HBD := Lib.hid (fun (_ : Unit) => And.intro hb1 hb2)
      clear hrs hg2 hR hor2 hb1 hb2
      generalize D.restart keep = E at *
      go_wp2_with fail
      refine HRS.out.mono ?_
      clear HRS
      rintro _ w7 ⟨rfl, hD7, hF7⟩
      have hop := open_good (w := w7) hD7 HG2.out HRD.out.1 (by have := HBD.out (); omega)
      have HOP := Lib.hid hop
      have HTE7 := Lib.hid (show Below w.heap.size w w7 ∧ ChgP (fun j => j ∉ X) w7 u10 (foldA r0 ds) ∧ ChgP (fun j => j ∉ X) w7 u11 (foldA r0 ds) from ⟨HTE.out.below.trans (hF7.below HTE.out.below.size HTE.out.lo), HTE.out.want.frame hF7 (fun _ h => h), HTE.out.last.frame hF7 (fun _ h => h)⟩)
      clear hD7 hF7 hop
      go_wp2_with fail
      refine HOP.out.mono ?_
      clear HOP
      rintro _ w8 ⟨_, rfl, hB8, sb2, lb2, vr2, rfl, hsb2, hlb2, hlv2⟩
      have HLO2 := Lib.hid (show ∀ j ∈ sb2 :: lb2 :: X, w.heap.size ≤ j from fun j hj => by
        have := HTE7.out.1.size
        rcases List.mem_cons.1 hj with rfl | hj
        · omega
        rcases List.mem_cons.1 hj with rfl | hj
        · omega
        · exact HTE.out.lo j hj)
      have HLV2 := Lib.hid hlv2
      have HW8 := Lib.hid (show Below w.heap.size w w8 ∧ ChgP (fun j => j ∉ X) w8 u10 (foldA r0 ds) ∧ ChgP (fun j => j ∉ X) w8 u11 (foldA r0 ds) from ⟨HTE7.out.1.trans (hB8.mono HTE7.out.1.size), HTE7.out.2.1.later hB8, HTE7.out.2.2.later hB8⟩)
      have hro := srows_any sb2 db lb2 H2 vr2 (foldA r2 ds2) w8 hlv2.s hlv2.r.at (by have := hlv2.g.rows.most; omega)
      have HRO := Lib.hid hro
      clear hB8 hsb2 hlb2 hlv2 hro HTE7
      go_wp2_with fail
      refine HRO.out.mono ?_
      clear HRO
      rintro _ w9 ⟨v9, rfl, ho9, hk9, hB9⟩
      obtain ⟨aog, cg, rfl⟩ := owns_form ho9
      have HGOT := Lib.hid (show ChgP (fun j => j ∉ sb2 :: lb2 :: X) w9 (.slice aog (foldA r2 ds2).length cg) (foldA r2 ds2) from (ChgP.of_owns ho9).mono (fun j _ hj hm => by have := hk9 j hj; have := HLV2.out.lt j hm; omega))
      have HB98 := Lib.hid hB9
      have HBW9 := Lib.hid (show Below w.heap.size w w9 from HW8.out.1.trans (hB9.mono HW8.out.1.size))
      obtain ⟨ng, hng⟩ : ∃ ng, ng = (foldA r2 ds2).length := ⟨_, rfl⟩
      have HNG := Lib.hid (fun (_ : Unit) => show (foldA r2 ds2).length ≤ 1000 by have := HLV2.out.g.rows.most; omega)
      rw [← hng] at HGOT ⊢
      have hsm1 := same_changes (.slice aog ng cg) u10 (foldA r2 ds2) (foldA r0 ds) w9 HGOT.out.at (HW8.out.2.1.later hB9).at (HNG.out ())
      have HSM1 := Lib.hid hsm1
      have hsm2 := fun w' (hb : Below w9.heap.size w9 w') => same_changes (.slice aog ng cg) u11 (foldA r2 ds2) (foldA r0 ds) w' (HGOT.out.later hb).at ((HW8.out.2.2.later hB9).later hb).at (HNG.out ())
      have HSM2 := Lib.hid hsm2
      clear ho9 hk9 hB9 hng hsm1 hsm2
      cases hx : sameL (foldA r2 ds2) (foldA r0 ds)
      · have hx2 : sameL (foldA r2 ds2) (foldA r0 ds) = true := by
          rcases HOR.out () with h | h
          · rw [(sameL_eq _ _).2 h] at hx
            cases hx
          · exact (sameL_eq _ _).2 h
        rw [hx] at HSM1
        rw [hx2] at HSM2
        clear hx hx2
        go_wp2_with fail
        refine HSM1.out.mono ?_
        clear HSM1
        rintro _ w10 ⟨rfl, hB10⟩
        have HB10 := Lib.hid hB10
        clear hB10
        go_wp2_with fail
        refine (HSM2.out w10 HB10.out).mono ?_
        clear HSM2
        rintro _ w11 ⟨rfl, hB11⟩
        have HBR := Lib.hid (show Below w9.heap.size w9 w11 from HB10.out.trans (hB11.mono HB10.out.size))
        clear hB11
        have HG9 := Lib.hid (show ChgP (fun j => j ∉ sb2 :: lb2 :: X) w11 (.slice aog ng cg) (foldA r2 ds2) from HGOT.out.later HBR.out)
        have HL9 := Lib.hid (HLV2.out.later (HB98.out.trans (HBR.out.mono HB98.out.size)))
        have hcn : comF 110 (foldA r2 ds2) [] = 0 := comF_zero (by decide) rfl (by have := HL9.out.g.rows.most; show ¬ 64 < (foldA r2 ds2).length; omega) (by decide)
        have hcm := commit_good HL9.out (.slice none 0 0) [] ⟨none, 0, rfl, by unfold maxLen; decide, fun i c hc => by simp at hc⟩ (by decide) (by have := HBD.out (); omega) (by have := HBD.out (); omega)
        have HCN := Lib.hid (fun (_ : Unit) => hcn)
        have HCM := Lib.hid hcm
        clear hcn hcm
        go_wp2_with fail
        refine HCM.out.mono ?_
        clear HCM
        rintro _ wS ⟨vS, rfl, hcv⟩
        obtain ⟨rfl, lbS, YS, DS, HS, vrS, rS, LS', dsS, hlS, -, hrwS, hFS, hFrS, hepS, hftS, hrdS⟩ := hcv.done HRD.out (HCN.out ())
        have hckS := ck_good hlS (by have := HBD.out (); omega) (by have := HBD.out (); omega)
        have HCK := Lib.hid hckS
        have HGS := Lib.hid (HG9.out.go hFS hFrS)
        have hloS : ∀ j ∈ sb2 :: lbS :: YS, w.heap.size ≤ j := fun j hj => (hFrS j hj).elim (HLO2.out j) (fun g => Nat.le_trans (HBW9.out.trans (HBR.out.mono HBW9.out.size)).size g)
        have hbS : Below w.heap.size w wS := (HBW9.out.trans (HBR.out.mono HBW9.out.size)).trans (hFS.below (HBW9.out.trans (HBR.out.mono HBW9.out.size)).size HLO2.out)
        have HXS := Lib.hid (And.intro hloS (And.intro hbS (And.intro hrwS (And.intro hftS hrdS))))
        rw [show errV 0 = .nilIface from rfl]
        clear hcv hlS hrwS hFS hFrS hepS hftS hrdS hckS hloS hbS
        go_wp2_with fail
        refine HCK.out.mono ?_
        clear HCK
        rintro _ wU ⟨vU, rfl, hck⟩
        rcases hck with ⟨rfl, lbU, YU, DU, HU', hlU, hFU, hFrU, hepU, hftU, hrdU⟩ | ⟨-, hnr, -⟩
        case inr => exact absurd HXS.out.2.2.2.2 hnr
        have hopU := open_good (w := wU) hlU.d hlU.g hlU.up (by have := HBD.out (); have := HXS.out.2.2.2.1; omega)
        have HOPU := Lib.hid hopU
        have HGU := Lib.hid (HGS.out.go hFU hFrU)
        have HBU := Lib.hid (show Below w.heap.size w wU from HXS.out.2.1.trans (hFU.below HXS.out.2.1.size HXS.out.1))
        rw [show errV 0 = .nilIface from rfl]
        clear hlU hFU hFrU hepU hftU hrdU hopU
        go_wp2_with fail
        refine HOPU.out.mono ?_
        clear HOPU
        rintro _ wV ⟨_, rfl, hBV, sbV, lbV, vrV, rfl, hsbV, hlbV, hlV⟩
        have hroV := srows_any sbV db lbV HU' vrV (foldA (foldA rS dsS) []) wV hlV.s hlV.r.at (by have := hlV.g.rows.most; omega)
        have HROV := Lib.hid hroV
        have HRWV := Lib.hid (fun (_ : Unit) => show foldA (foldA rS dsS) [] = foldA r2 ds2 from HXS.out.2.2.1)
        have HGV := Lib.hid (HGU.out.later hBV)
        have HBV := Lib.hid (HBU.out.trans (hBV.mono HBU.out.size))
        have HNV := Lib.hid (fun (_ : Unit) => hlV.g.rows.most)
        clear hBV hsbV hlbV hlV hroV
        go_wp2_with fail
        refine HROV.out.mono ?_
        clear HROV
        rintro _ wX ⟨vX, rfl, hoX, -, hBX⟩
        have hsmX := same_changes vX (.slice aog ng cg) (foldA (foldA rS dsS) []) (foldA r2 ds2) wX hoX.at (HGV.out.later hBX).at (by have := HNV.out (); omega)
        rw [(sameL_eq _ _).2 (HRWV.out ())] at hsmX
        have HSMX := Lib.hid hsmX
        have HBX := Lib.hid (HBV.out.trans (hBX.mono HBV.out.size))
        clear hoX hBX hsmX
        go_wp2_with fail
        refine HSMX.out.mono ?_
        rintro _ wY ⟨rfl, hBY⟩
        go_wp2_with fail
        go_ret
        exact Ret.of rfl (HBX.out.trans (hBY.mono HBX.out.size))
      · rw [hx] at HSM1
        clear hx
        go_wp2_with fail
        refine HSM1.out.mono ?_
        clear HSM1
        rintro _ w10 ⟨rfl, hB10⟩
        have HBR := Lib.hid hB10
        clear hB10
        have HG9 := Lib.hid (show ChgP (fun j => j ∉ sb2 :: lb2 :: X) w10 (.slice aog ng cg) (foldA r2 ds2) from HGOT.out.later HBR.out)
        have HL9 := Lib.hid (HLV2.out.later (HB98.out.trans (HBR.out.mono HB98.out.size)))
        have hcn : comF 110 (foldA r2 ds2) [] = 0 := comF_zero (by decide) rfl (by have := HL9.out.g.rows.most; show ¬ 64 < (foldA r2 ds2).length; omega) (by decide)
        have hcm := commit_good HL9.out (.slice none 0 0) [] ⟨none, 0, rfl, by unfold maxLen; decide, fun i c hc => by simp at hc⟩ (by decide) (by have := HBD.out (); omega) (by have := HBD.out (); omega)
        have HCN := Lib.hid (fun (_ : Unit) => hcn)
        have HCM := Lib.hid hcm
        clear hcn hcm
        go_wp2_with fail
        refine HCM.out.mono ?_
        clear HCM
        rintro _ wS ⟨vS, rfl, hcv⟩
        obtain ⟨rfl, lbS, YS, DS, HS, vrS, rS, LS', dsS, hlS, -, hrwS, hFS, hFrS, hepS, hftS, hrdS⟩ := hcv.done HRD.out (HCN.out ())
        have hckS := ck_good hlS (by have := HBD.out (); omega) (by have := HBD.out (); omega)
        have HCK := Lib.hid hckS
        have HGS := Lib.hid (HG9.out.go hFS hFrS)
        have hloS : ∀ j ∈ sb2 :: lbS :: YS, w.heap.size ≤ j := fun j hj => (hFrS j hj).elim (HLO2.out j) (fun g => Nat.le_trans (HBW9.out.trans (HBR.out.mono HBW9.out.size)).size g)
        have hbS : Below w.heap.size w wS := (HBW9.out.trans (HBR.out.mono HBW9.out.size)).trans (hFS.below (HBW9.out.trans (HBR.out.mono HBW9.out.size)).size HLO2.out)
        have HXS := Lib.hid (And.intro hloS (And.intro hbS (And.intro hrwS (And.intro hftS hrdS))))
        rw [show errV 0 = .nilIface from rfl]
        clear hcv hlS hrwS hFS hFrS hepS hftS hrdS hckS hloS hbS
        go_wp2_with fail
        refine HCK.out.mono ?_
        clear HCK
        rintro _ wU ⟨vU, rfl, hck⟩
        rcases hck with ⟨rfl, lbU, YU, DU, HU', hlU, hFU, hFrU, hepU, hftU, hrdU⟩ | ⟨-, hnr, -⟩
        case inr => exact absurd HXS.out.2.2.2.2 hnr
        have hopU := open_good (w := wU) hlU.d hlU.g hlU.up (by have := HBD.out (); have := HXS.out.2.2.2.1; omega)
        have HOPU := Lib.hid hopU
        have HGU := Lib.hid (HGS.out.go hFU hFrU)
        have HBU := Lib.hid (show Below w.heap.size w wU from HXS.out.2.1.trans (hFU.below HXS.out.2.1.size HXS.out.1))
        rw [show errV 0 = .nilIface from rfl]
        clear hlU hFU hFrU hepU hftU hrdU hopU
        go_wp2_with fail
        refine HOPU.out.mono ?_
        clear HOPU
        rintro _ wV ⟨_, rfl, hBV, sbV, lbV, vrV, rfl, hsbV, hlbV, hlV⟩
        have hroV := srows_any sbV db lbV HU' vrV (foldA (foldA rS dsS) []) wV hlV.s hlV.r.at (by have := hlV.g.rows.most; omega)
        have HROV := Lib.hid hroV
        have HRWV := Lib.hid (fun (_ : Unit) => show foldA (foldA rS dsS) [] = foldA r2 ds2 from HXS.out.2.2.1)
        have HGV := Lib.hid (HGU.out.later hBV)
        have HBV := Lib.hid (HBU.out.trans (hBV.mono HBU.out.size))
        have HNV := Lib.hid (fun (_ : Unit) => hlV.g.rows.most)
        clear hBV hsbV hlbV hlV hroV
        go_wp2_with fail
        refine HROV.out.mono ?_
        clear HROV
        rintro _ wX ⟨vX, rfl, hoX, -, hBX⟩
        have hsmX := same_changes vX (.slice aog ng cg) (foldA (foldA rS dsS) []) (foldA r2 ds2) wX hoX.at (HGV.out.later hBX).at (by have := HNV.out (); omega)
        rw [(sameL_eq _ _).2 (HRWV.out ())] at hsmX
        have HSMX := Lib.hid hsmX
        have HBX := Lib.hid (HBV.out.trans (hBX.mono HBV.out.size))
        clear hoX hBX hsmX
        go_wp2_with fail
        refine HSMX.out.mono ?_
        rintro _ wY ⟨rfl, hBY⟩
        go_wp2_with fail
        go_ret
        exact Ret.of rfl (HBX.out.trans (hBY.mono HBX.out.size))


end Go.Proofs.Ytkapmpngglibjaa
