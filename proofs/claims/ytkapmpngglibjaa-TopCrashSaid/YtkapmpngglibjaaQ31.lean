/- Several texts in one: what each begins with says what it shows. Conditions: each law's own premises. -/
import Derived.Test.YtkapmpngglibjaaQ30
import Derived.Test.YtkapmpngglibjaaQ12

/- A deed committed. Conditions: the contract's own premises. -/
namespace Go.Proofs.Ytkapmpngglibjaa
open Go Go.RowKit Go.Shelf

/-- What is wrong with a deed; 0: nothing. -/
def comF (n : Nat) (rows l : List Chg) : Nat := if 12 < l.length then 2 else if firstFault l ≠ 0 then firstFault l else if 64 < (applyL rows l).length ∨ n - 90 < l.length + 1 then 9 else 0
/-- How many sectors the log has taken behind the deed. -/
def comN (L : LM) (l : List Chg) : Nat := (if L.many < L.next + (l.length + 1) then 0 else L.next) + l.length + 1

/-- What a commit leaves. -/
def ComV (w : World) (sb lb db : Nat) (X : List Nat) (D : DM) (n : Nat) (H : HM) (r0 : List Chg) (L : LM) (ds : List (List Chg)) (l : List Chg) (v : Value) (w' : World) : Prop :=
  (comF n (foldA r0 ds) l ≠ 0 ∧ v = errV (comF n (foldA r0 ds) l) ∧ Below w.heap.size w w') ∨
  (comF n (foldA r0 ds) l = 0 ∧ v = errV 0 ∧ ∃ lb' Y D' H' vr' r0' L' ds', StoLive w' sb lb' db Y D' n H' vr' r0' L' ds' ∧ L'.next = comN L l ∧ foldA r0' ds' = applyL (foldA r0 ds) l ∧
    Frame (sb :: lb :: X) w w' ∧ Fresh w (sb :: lb :: X) (sb :: lb' :: Y) ∧ H'.epoch ≤ H.epoch + 1 ∧ H'.first ≤ H.first + (n - 90) ∧ (D.Ready → D'.Ready)) ∨
  (comF n (foldA r0 ds) l = 0 ∧ v = errV 10 ∧ ¬ D.Ready ∧ ∃ Y D', DiskAt w' 107 111 db Y D' ∧ Fresh w (sb :: lb :: X) Y ∧ Frame (sb :: lb :: X) w w' ∧ D'.wait.length < 10000 ∧ ∀ keep, ∃ H' r0' L' ds', StoGood (D'.restart keep) n H' r0' L' ds' ∧
    (foldA r0' ds' = foldA r0 ds ∨ foldA r0' ds' = applyL (foldA r0 ds) l) ∧ H'.epoch ≤ H.epoch + 1 ∧ H'.first ≤ H.first + (n - 90))

theorem comF_zero {n : Nat} {rows l : List Chg} (h1 : ¬ 12 < l.length) (h2 : firstFault l = 0) (h3 : ¬ 64 < (applyL rows l).length) (h4 : ¬ n - 90 < l.length + 1) : comF n rows l = 0 := by
  rw [comF, if_neg h1, if_neg (by rw [h2]; simp), if_neg (by rintro (g | g) <;> omega)]
theorem comF_nine {n : Nat} {rows l : List Chg} (h1 : ¬ 12 < l.length) (h2 : firstFault l = 0) (h3 : 64 < (applyL rows l).length ∨ n - 90 < l.length + 1) : comF n rows l = 9 := by
  rw [comF, if_neg h1, if_neg (by rw [h2]; simp), if_pos h3]
theorem comF_fault {n : Nat} {rows l : List Chg} (h1 : ¬ 12 < l.length) (h2 : firstFault l ≠ 0) : comF n rows l = firstFault l := by
  rw [comF, if_neg h1, if_pos h2]
theorem comF_many {n : Nat} {rows l : List Chg} (h1 : 12 < l.length) : comF n rows l = 2 := by
  rw [comF, if_pos h1]

set_option maxHeartbeats 8000000 in
set_option maxRecDepth 100000 in
theorem commit_good {w : World} {sb lb db : Nat} {X : List Nat} {D : DM} {n : Nat} {H : HM} {vr : Value} {r0 : List Chg} {L : LM} {ds : List (List Chg)} (h : StoLive w sb lb db X D n H vr r0 L ds) (vl : Value) (l : List Chg) (hv : ChgP (fun k => k ∉ sb :: lb :: X) w vl l)
    (hl : l.length ≤ 100) (he : H.epoch < 10000000) (hf : H.first < 10000000) : Calls Try.prog 56 #[.pointer (some ⟨sb, 0, none⟩), vl] w (RetV (ComV w sb lb db X D n H r0 L ds l)) := by
  have HV := Lib.hid hv
  obtain ⟨ao, cap, rfl, hm, hr⟩ := hv
  have HR := Lib.hid hr
  have HH := Lib.hid h
  have HE := Lib.hid (fun (_ : Unit) => And.intro he hf)
  obtain ⟨m, hmm⟩ : ∃ m, m = l.length := ⟨_, rfl⟩
  have HM := Lib.hid (fun (_ : Unit) => hmm)
  have HQ := Lib.hid (fun (_ : Unit) => show 104 ≤ n ∧ n ≤ 130 ∧ D.now.length = n ∧ L.many = n - 90 ∧ L.next ≤ L.many ∧ L.from_ = 90 ∧ L.first = H.first from ⟨h.g.s.n1, h.g.s.n2, h.g.s.len, h.g.lm, h.g.g.of_.next_le, h.g.lf, h.g.lh⟩)
  rw [← hmm] at hl HV ⊢
  have m0 : (0 : Int) ≤ (m : Int) := by omega
  have m1 : (m : Int) ≤ 100 := by omega
  clear hr hm he hf hmm h
  by_cases h12 : 12 < m
  · have h12' : (12 : Int) < (m : Int) := by omega
    have HEND := Lib.hid (fun (_ : Unit) => comF_many (n := n) (rows := foldA r0 ds) (l := l) (by have := HM.out (); omega))
    have e2 : errV 2 = .iface 101 (.int .i64 2) := rfl
    go_enter Try.func56, Try.ntmps56
    go_wp2_with fail
    go_ret
    exact RetV.of (.inl ⟨by rw [HEND.out ()]; decide, by rw [HEND.out ()]; rfl, Below.refl _ _⟩)
  have hn12 : (m : Int) ≤ 12 := by omega
  have s1 : IntKind.i64.wrap ((m : Int) + 1) = (m : Int) + 1 := IntWalk.i64_in _ (by omega)
  go_enter Try.func56, Try.ntmps56
  go_wp2_with fail
  go_loopw [17] (fun i wr => ∃ k : Nat, k ≤ m ∧ i = .int .i64 (k : Int) ∧ Hid (Below w.heap.size w wr) ∧ Hid (firstFault l = firstFault (l.drop k))) (fun i _ => m - (intOf i).toNat)
  case atStart => exact ⟨0, Nat.zero_le _, rfl, Lib.hid (Below.refl _ _), Lib.hid rfl⟩
  case round =>
    obtain ⟨k, hk, rfl, HS, HFF⟩ := hrel
    have k0 : (0 : Int) ≤ (k : Int) := by omega
    by_cases hlt : k < m
    · have k1 : (k : Int) < (m : Int) := by omega
      obtain ⟨⟨ck, cv, cg⟩, hc⟩ : ∃ a, l[k]? = some a := ⟨_, List.getElem?_eq_getElem (by rw [← HM.out ()]; exact hlt)⟩
      obtain ⟨b1, off, rfl, hbX, c0, c1, c2⟩ := HR.out k _ hc
      have hff : firstFault (l.drop k) = firstFault (⟨ck, cv, cg⟩ :: l.drop (k + 1)) := by
        obtain ⟨h1, h2⟩ := List.getElem?_eq_some_iff.1 hc
        rw [List.drop_eq_getElem_cons h1, h2]
      rw [firstFault] at hff
      have HF2 := Lib.hid (HFF.out.trans hff)
      have d0 := (HS.out.cell (World.block_lt_of_cell? w _ c0)).trans c0
      have d1 := (HS.out.cell (World.block_lt_of_cell? w _ c1)).trans c1
      have d2 := (HS.out.cell (World.block_lt_of_cell? w _ c2)).trans c2
      clear hc hff c0 c1 c2
      go_wp2_with fail
      refine (check_any ck cv cg _).mono ?_
      rintro e w4 ⟨rfl, hB4⟩
      have HS4 := Lib.hid (show Below w.heap.size w w4 from HS.out.trans (((Below.refl wr.heap.size wr).alloc (Nat.le_refl _) (.cells #[.string ck, .string cv, .bool cg] 64) |>.trans (hB4.mono (by rw [size_alloc]; omega))).mono HS.out.size))
      clear hB4 d0 d1 d2
      generalize faultOf ⟨ck, cv, cg⟩ = fm at *
      by_cases hfm : fm = 0
      · subst hfm
        have e0 : errV 0 = .nilIface := rfl
        rw [e0]
        clear e0
        have HF3 := Lib.hid (show firstFault l = firstFault (l.drop (k + 1)) by rw [HF2.out, if_pos rfl])
        go_wp2_with fail
        exact ⟨⟨k + 1, by omega, by go_num, HS4, HF3⟩, by simp [intOf]; omega⟩
      · have e0 : errV fm = .iface 101 (.int .i64 (fm : Int)) := by simp [errV, hfm]
        have hffm : firstFault l = fm := by rw [HF2.out, if_neg hfm]
        have HEND := Lib.hid (fun (_ : Unit) => And.intro (show comF n (foldA r0 ds) l = fm by rw [comF_fault (by have := HM.out (); omega) (by rw [hffm]; exact hfm), hffm]) hfm)
        have E0 := Lib.hid e0
        rw [e0]
        clear e0 hffm hfm
        go_wp2_with fail
        go_ret
        exact RetV.of (.inl ⟨by rw [(HEND.out ()).1]; exact (HEND.out ()).2, by rw [(HEND.out ()).1]; exact E0.out.symm, HS4.out⟩)
    · obtain rfl : k = m := by omega
      clear hlt hk
      have hall : firstFault l = 0 := by
        rw [HFF.out, List.drop_of_length_le (by rw [← HM.out ()]; exact Nat.le_refl _)]
        rfl
      have HALL := Lib.hid (fun (_ : Unit) => hall)
      clear hall
      have HSZ := Lib.hid (fun (_ : Unit) => HS.out.size)
      have HLV := Lib.hid (show StoLive wr sb lb db X D n H vr r0 L ds from HH.out.later HS.out)
      have HVW := Lib.hid (show ChgP (fun k => k ∉ sb :: lb :: X) wr (.slice ao k cap) l from HV.out.later HS.out)
      obtain ⟨s0, s1', s2, s3, s4, s5, s6⟩ := HLV.out.s.cells
      obtain ⟨r8, hr8⟩ : ∃ r8, r8 = (applyL (foldA r0 ds) l).length := ⟨_, rfl⟩
      have hlen8 := applyL_length l (foldA r0 ds)
      have hmost := HLV.out.g.rows.most
      have hap := apply_any vr (.slice ao k cap) (foldA r0 ds) l wr HLV.out.r.at HVW.out.at HLV.out.g.rows.rise (by have := HM.out (); omega)
      have HR8 := Lib.hid (fun (_ : Unit) => And.intro hr8 (show r8 ≤ 200 by have := HM.out (); omega))
      have HAP := Lib.hid hap
      clear hr8 hlen8 hmost hap
      go_wp2_with fail
      refine HAP.out.mono ?_
      clear HAP
      rintro _ w1 ⟨v8, rfl, ho8, hb8, hB1⟩
      obtain ⟨ao8, cap8, rfl⟩ := owns_form ho8
      rw [← (HR8.out ()).1]
      have HO8 := Lib.hid ho8
      have HB8 := Lib.hid (show ∀ b, (Value.slice ao8 r8 cap8).ownBlock = some b → wr.heap.size ≤ b ∧ b < w1.heap.size by
        rw [(HR8.out ()).1]
        exact fun b hb => ⟨hb8 b hb, by obtain ⟨cur, hc⟩ := owns_lt ho8 hb; exact lt_of_heap hc⟩)
      have HL1 := Lib.hid (HLV.out.later hB1)
      have HV1 := Lib.hid (HVW.out.later hB1)
      have HS1 := Lib.hid (show Below w.heap.size w w1 from HS.out.trans (hB1.mono HS.out.size))
      have r80 : (0 : Int) ≤ (r8 : Int) := by omega
      have r81 : (r8 : Int) ≤ 200 := by have := (HR8.out ()).2; omega
      clear ho8 hb8 hB1 s0 s1' s2 s3 s4 s5 s6 HLV HVW
      obtain ⟨s0, s1', s2, s3, s4, s5, s6⟩ := HL1.out.s.cells
      by_cases hbig : 64 < r8
      · have hbig' : (64 : Int) < (r8 : Int) := by omega
        have HEND := Lib.hid (fun (_ : Unit) => comF_nine (n := n) (rows := foldA r0 ds) (l := l) (by have := HM.out (); omega) (HALL.out ()) (.inl (by rw [← (HR8.out ()).1]; exact hbig)))
        go_wp2_with fail
        go_ret
        exact RetV.of (.inl ⟨by rw [HEND.out ()]; decide, by rw [HEND.out ()]; rfl, HS1.out⟩)
      have hbig' : (r8 : Int) ≤ 64 := by omega
      have hsec := sectors_any 107 111 db X D w1 HL1.out.d
      rw [(HQ.out ()).2.2.1] at hsec
      have HSEC := Lib.hid hsec
      have n0 : (104 : Int) ≤ (n : Int) := by have := HQ.out (); omega
      have n1 : (n : Int) ≤ 130 := by have := HQ.out (); omega
      clear hsec
      by_cases hfew : n - 90 < k + 1
      · have hfew' : (n : Int) - 90 < (k : Int) + 1 := by omega
        have HEND := Lib.hid (fun (_ : Unit) => comF_nine (n := n) (rows := foldA r0 ds) (l := l) (by have := HM.out (); omega) (HALL.out ()) (.inr (by rw [← HM.out ()]; exact hfew)))
        go_wp2_with fail
        refine HSEC.out.mono ?_
        rintro _ w2 ⟨rfl, rfl⟩
        go_wp2_with fail
        go_ret
        exact RetV.of (.inl ⟨by rw [HEND.out ()]; decide, by rw [HEND.out ()]; rfl, HS1.out⟩)
      have hfew' : (k : Int) + 1 ≤ (n : Int) - 90 := by omega
      have HCF := Lib.hid (fun (_ : Unit) => comF_zero (n := n) (rows := foldA r0 ds) (l := l) (by have := HM.out (); omega) (HALL.out ()) (by rw [← (HR8.out ()).1]; exact hbig) (by rw [← HM.out ()]; exact hfew))
      clear hbig hfew
      go_wp2_with fail
      refine HSEC.out.mono ?_
      rintro _ w2 ⟨rfl, rfl⟩
      clear HSEC
      have hroom := room_any lb db L w1 HL1.out.l (by have := HQ.out (); omega) (by have := HQ.out (); omega)
      have HROOM := Lib.hid hroom
      have l0 : (0 : Int) ≤ (L.next : Int) := by omega
      have l1 : (L.next : Int) ≤ (L.many : Int) := by have := HQ.out (); omega
      have l2 : (L.many : Int) ≤ 130 := by have := HQ.out (); omega
      clear hroom
      go_wp2_with fail
      refine HROOM.out.mono ?_
      rintro _ w2 ⟨rfl, q, rfl⟩
      clear HROOM
      have HBq := Lib.hid (below_drewN (Below.refl w1.heap.size w1) q)
      have HL2 := Lib.hid (HL1.out.later HBq.out)
      have HV2 := Lib.hid (HV1.out.later HBq.out)
      have HS2 := Lib.hid (show Below w.heap.size w (w1.drewN q) from HS1.out.trans (HBq.out.mono HS1.out.size))
      have HO2 := Lib.hid (show OwnC (w1.drewN q) (.slice ao8 r8 cap8) (applyL (foldA r0 ds) l) from by
        have := OwnC.frame HO8.out (Frame.of_below [] HBq.out) (by simp)
        rw [(HR8.out ()).1]
        exact this)
      have HW2 := Lib.hid (fun (_ : Unit) => HBq.out.size)
      clear HO8 HL1 HV1 HS1 HBq s0 s1' s2 s3 s4 s5 s6
      generalize w1.drewN q = w2 at *
      by_cases hroom : L.many < L.next + (k + 1)
      · have hroom' : (L.many : Int) - (L.next : Int) < (k : Int) + 1 := by omega
        have hck := ck_good HL2.out (by have := HE.out (); omega) (by have := HE.out (); omega)
        have HCK := Lib.hid hck
        have HNX := Lib.hid (fun (_ : Unit) => show 0 + l.length + 1 = comN L l by rw [comN, ← HM.out (), if_pos hroom])
        clear hck hroom l0 l1 l2
        go_wp2_with fail
        refine HCK.out.mono ?_
        clear HCK
        rintro _ w3 ⟨v, rfl, hck⟩
        rcases hck with ⟨rfl, lb', Y, D', H', hlv, hF3, hFr3, hep3, hft3, hup3⟩ | ⟨rfl, hnr, Y, D', hD3, hY3, hF3, hw3, hk3⟩
        · have e0 : errV 0 = .nilIface := rfl
          rw [e0]
          clear e0
          have HLV3 := Lib.hid hlv
          have HV3 := Lib.hid (HV2.out.go hF3 hFr3)
          have HF3 := Lib.hid (show Frame (sb :: lb :: X) w w3 ∧ Fresh w (sb :: lb :: X) (sb :: lb' :: Y) from ⟨(Frame.of_below _ (HS2.out)).trans hF3 |>.mono (fun _ h => h), (Fresh.refl w _).trans hFr3 HS2.out.size⟩)
          have HO3 := Lib.hid (show OwnC w3 (.slice ao8 r8 cap8) (applyL (foldA r0 ds) l) ∧ ∀ b, (Value.slice ao8 r8 cap8).ownBlock = some b → b ∉ sb :: lb' :: Y ∧ b < w3.heap.size from ⟨HO2.out.frame hF3 (fun b hb hm => by
              have := HB8.out b hb
              have := HH.out.lt b hm
              have := HSZ.out ()
              omega), fun b hb => ⟨fun hm => by
              have h1 := HB8.out b hb
              have h2 := HSZ.out ()
              have h3 := HW2.out ()
              rcases hFr3 b hm with g | g
              · have := HH.out.lt b g
                omega
              · omega, by have := HB8.out b hb; have := HW2.out (); have := hF3.size; omega⟩⟩)
          have HB3 := Lib.hid (fun (_ : Unit) => show H'.epoch ≤ H.epoch + 1 ∧ H'.first ≤ H.first + (n - 90) ∧ (D.Ready → D'.Ready) ∧ foldA (foldA r0 ds) [] = foldA r0 ds from ⟨hep3, hft3, hup3, rfl⟩)
          clear hlv hF3 hFr3 hep3 hft3 hup3
          clear HO2 HL2 HV2
          have hroom3 : (⟨90, n - 90, H'.first, 0⟩ : LM).next + l.length + 1 ≤ (⟨90, n - 90, H'.first, 0⟩ : LM).many := by
            have h1 := HQ.out ()
            have h2 := HM.out ()
            show 0 + l.length + 1 ≤ n - 90
            omega
          have had := add_any lb' db Y D' (⟨90, n - 90, H'.first, 0⟩ : LM) (.slice ao k cap) l w3 HLV3.out.d HLV3.out.l HLV3.out.lX (HV3.out.mono (fun b _ hb hm => hb (by simp [hm]))) (by have := HLV3.out.g.lf; have := HLV3.out.g.lm; have := HQ.out (); omega) HLV3.out.g.g.of_.next_le (by have := HLV3.out.g.lh; have := HB3.out (); have := HE.out (); have := HQ.out (); omega) (by rw [HLV3.out.g.g.wait]; decide) (by have := HM.out (); omega)
          have hrs : foldA (foldA r0 ds) ([] : List (List Chg)) = foldA r0 ds := (HB3.out ()).2.2.2
          have hgr : GoodRows (applyL (foldA (foldA r0 ds) ([] : List (List Chg))) l) := by rw [hrs]; exact HH.out.g.rows.apply (HALL.out ()) (by rw [← (HR8.out ()).1]; omega)
          have hac := HLV3.out.g.add l (by have := HM.out (); omega) (HALL.out ()) hgr hroom3
          have hau := fun hu => addL_up l HLV3.out.g.g hu (by have := HM.out (); omega) hroom3 (HALL.out ())
          have hwt := addL_wait (⟨90, n - 90, H'.first, 0⟩ : LM) D' l
          rw [HLV3.out.g.g.wait] at hwt
          have HWT := Lib.hid (fun (_ : Unit) => show (addL (⟨90, n - 90, H'.first, 0⟩ : LM) D' l).2.1.wait.length < 10000 by have := HM.out (); simp only [List.length_nil] at hwt; omega)
          clear hwt
          have HAC := Lib.hid hac
          have HAU := Lib.hid hau
          have HRS := Lib.hid (fun (_ : Unit) => show foldA (foldA r0 ds) (([] : List (List Chg)) ++ [l]) = applyL (foldA r0 ds) l by rw [foldA_snoc, hrs])
          have HAD := Lib.hid had
          obtain ⟨s0, s1', s2, s3, s4, s5, s6⟩ := HLV3.out.s.cells
          clear hac hau hrs hgr hroom3 had
          generalize addL (⟨90, n - 90, H'.first, 0⟩ : LM) D' l = AA at *
          obtain ⟨am, aD, aL⟩ := AA
          go_wp2_with fail
          refine HAD.out.mono ?_
          clear HAD
          rintro _ w4 ⟨rfl, Z, hD4, hL4, hF4, hZ4⟩
          have hFr4 : Frame (sb :: lb :: X) w w4 := HF3.out.1.then' hF4 (fun b hb => HF3.out.2 b (List.mem_cons_of_mem _ hb))
          have hZr4 : Fresh w (sb :: lb :: X) (sb :: lb' :: Z) := fun b hb => by
            rcases List.mem_cons.1 hb with rfl | hb
            · exact .inl (by simp)
            rcases List.mem_cons.1 hb with rfl | hb
            · exact HF3.out.2 _ (by simp)
            · exact (hZ4 b hb).elim (fun g => HF3.out.2 b (by simp [g])) (fun g => .inr (Nat.le_trans HF3.out.1.size g))
          have HF4 := Lib.hid (And.intro hFr4 hZr4)
          clear s0 s1' s2 s3 s4 s5 s6
          rcases HAC.out with ⟨c1, c2, c3, c4⟩ | ⟨c1, c2, c3⟩
          · subst c1 c2
            have e0 : errV 0 = .nilIface := rfl
            rw [e0]
            clear e0
            have hsb := HLV3.out.sX
            have hne := HLV3.out.ne
            have hst4 : StoAt w4 sb db lb' H' vr := hF4.heap HLV3.out.s (by simp only [List.mem_cons, not_or]; exact ⟨hne, hsb⟩)
            have ho4 : OwnC w4 (.slice ao8 r8 cap8) (applyL (foldA r0 ds) l) := HO3.out.1.frame hF4 (fun b hb hm => (HO3.out.2 b hb).1 (List.mem_cons_of_mem _ hm))
            have hsZ : sb ∉ Z := fun hm => (hZ4 _ hm).elim hsb (fun g => by have := lt_of_heap HLV3.out.s; omega)
            have hlZ : lb' ∉ Z := fun hm => (hZ4 _ hm).elim HLV3.out.lX (fun g => by have := lt_of_heap HLV3.out.l; omega)
            have hoZ : ∀ b, (Value.slice ao8 r8 cap8).ownBlock = some b → b ∉ sb :: lb' :: Z := fun b hb hm => by
              rcases List.mem_cons.1 hm with rfl | hm
              · exact (HO3.out.2 b hb).1 (by simp)
              rcases List.mem_cons.1 hm with rfl | hm
              · exact (HO3.out.2 b hb).1 (by simp)
              · exact (hZ4 b hm).elim (fun g => (HO3.out.2 b hb).1 (by simp [g])) (fun g => by have := (HO3.out.2 b hb).2; omega)
            have HX4 := Lib.hid (And.intro hst4 (And.intro ho4 (And.intro hsZ (And.intro hlZ (And.intro hoZ (And.intro hD4 (And.intro hL4 (And.intro c3 (And.intro c4 hne)))))))))
            have x6 := cell_of hst4 6
            have y6 := frozen_of hst4
            clear hst4 ho4 hsZ hlZ hoZ hD4 hL4 c3 c4 hF4 hZ4 hFr4 hZr4 hsb hne
            simp only [List.getElem?_toArray, List.getElem?_cons_zero, List.getElem?_cons_succ] at x6
            go_wp2_with fail
            go_ret
            obtain ⟨g1, g2, g3, g4, g5, g6, g7, g8, g9, g10⟩ := HX4.out
            have hfs : Frame [sb] w4 (w4.setCell ⟨sb, 6, none⟩ (.slice ao8 r8 cap8)) := (Frame.refl [sb] w4).set (p := ⟨sb, 6, none⟩) (.inl (by simp)) _
            refine RetV.of (.inr (.inl ⟨HCF.out (), rfl, lb', Z, aD, H', .slice ao8 r8 cap8, (foldA r0 ds), (⟨90, n - 90, H'.first, 0⟩ : LM).more l, ([] : List (List Chg)) ++ [l], ⟨g6.frame hfs (fun b hb hm => g3 (by rw [← List.mem_singleton.1 hm]; exact hb)), hfs.heap g7 (by simp; exact fun e => g10 e.symm), heap_set_same 6 _ g1, g3, g4, ?_, g8, g9⟩, HNX.out (), HRS.out (), HF4.out.1.trans (hfs.mono (by simp)), HF4.out.2, (HB3.out ()).1, (HB3.out ()).2.1, fun hu => (HAU.out ((HB3.out ()).2.2.1 hu)).2⟩))
            rw [HRS.out ()]
            exact ((ChgP.of_owns g2).mono (fun b _ hb => g5 b hb)).frame hfs (fun b hb hm => hb (by rw [List.mem_singleton.1 hm]; simp))
          · subst c1
            have e10 : errV 10 = .iface 101 (.int .i64 10) := rfl
            have HK := Lib.hid (show ∃ Y D', DiskAt w4 107 111 db Y D' ∧ Fresh w (sb :: lb :: X) Y ∧ Frame (sb :: lb :: X) w w4 ∧ D'.wait.length < 10000 ∧ ∀ keep, ∃ H' r0' L' ds', StoGood (D'.restart keep) n H' r0' L' ds' ∧
              (foldA r0' ds' = foldA r0 ds ∨ foldA r0' ds' = applyL (foldA r0 ds) l) ∧ H'.epoch ≤ H.epoch + 1 ∧ H'.first ≤ H.first + (n - 90) from
              ⟨Z, aD, hD4, fun b hb => hZr4 b (by simp [hb]), hFr4, HWT.out (), fun keep => by
                rcases c3 keep with g | g
                · exact ⟨_, _, _, _, g, .inl rfl, (HB3.out ()).1, (HB3.out ()).2.1⟩
                · exact ⟨_, _, _, _, g, .inr (HRS.out ()), (HB3.out ()).1, (HB3.out ()).2.1⟩⟩)
            have HNR := Lib.hid (fun (_ : Unit) => show ¬ D.Ready from fun hu => by have := (HAU.out ((HB3.out ()).2.2.1 hu)).1; simp at this)
            clear hD4 hL4 c3 hF4 hZ4 hFr4 hZr4
            go_wp2_with fail
            go_ret
            exact RetV.of (.inr (.inr ⟨HCF.out (), rfl, HNR.out (), HK.out⟩))
        · have e10 : errV 10 = .iface 101 (.int .i64 10) := rfl
          have HK := Lib.hid (show ∃ Y D', DiskAt w3 107 111 db Y D' ∧ Fresh w (sb :: lb :: X) Y ∧ Frame (sb :: lb :: X) w w3 ∧ D'.wait.length < 10000 ∧ ∀ keep, ∃ H' r0' L' ds', StoGood (D'.restart keep) n H' r0' L' ds' ∧
            (foldA r0' ds' = foldA r0 ds ∨ foldA r0' ds' = applyL (foldA r0 ds) l) ∧ H'.epoch ≤ H.epoch + 1 ∧ H'.first ≤ H.first + (n - 90) from
            ⟨Y, D', hD3, fun b hb => (hY3 b hb).elim (fun g => .inl (by simp [g])) (fun g => .inr (Nat.le_trans HS2.out.size g)), (Frame.of_below _ HS2.out).trans hF3, hw3, fun keep => by
              obtain ⟨H', r0', L', ds', g1, g2, g3, g4⟩ := hk3 keep
              exact ⟨H', r0', L', ds', g1, .inl g2, g3, g4⟩⟩)
          have HNR := Lib.hid (fun (_ : Unit) => hnr)
          clear hD3 hY3 hF3 hw3 hk3 hnr
          go_wp2_with fail
          go_ret
          exact RetV.of (.inr (.inr ⟨HCF.out (), rfl, HNR.out (), HK.out⟩))
      · have hroom' : (k : Int) + 1 ≤ (L.many : Int) - (L.next : Int) := by omega
        have HNX := Lib.hid (fun (_ : Unit) => show L.next + l.length + 1 = comN L l by rw [comN, ← HM.out (), if_neg hroom])
        have HLV3 := HL2
        have HV3 := HV2
        have HF3 := Lib.hid (show Frame (sb :: lb :: X) w w2 ∧ Fresh w (sb :: lb :: X) (sb :: lb :: X) from ⟨Frame.of_below _ HS2.out, Fresh.refl w _⟩)
        have HO3 := Lib.hid (show OwnC w2 (.slice ao8 r8 cap8) (applyL (foldA r0 ds) l) ∧ ∀ b, (Value.slice ao8 r8 cap8).ownBlock = some b → b ∉ sb :: lb :: X ∧ b < w2.heap.size from ⟨HO2.out, fun b hb => ⟨fun hm => by
              have h1 := HB8.out b hb
              have h2 := HSZ.out ()
              have := HH.out.lt b hm
              omega, by have := HB8.out b hb; have := HW2.out (); omega⟩⟩)
        have HB3 := Lib.hid (fun (_ : Unit) => show H.epoch ≤ H.epoch + 1 ∧ H.first ≤ H.first + (n - 90) ∧ (D.Ready → D.Ready) ∧ foldA r0 ds = foldA r0 ds from ⟨Nat.le_succ _, Nat.le_add_right _ _, id, rfl⟩)
        have HRM := Lib.hid (fun (_ : Unit) => hroom)
        clear hroom
        clear HO2 HL2 HV2
        have hroom3 : L.next + l.length + 1 ≤ L.many := by
          have h1 := HQ.out ()
          have h2 := HM.out ()
          have := HRM.out ()
          omega
        have had := add_any lb db X D L (.slice ao k cap) l w2 HLV3.out.d HLV3.out.l HLV3.out.lX (HV3.out.mono (fun b _ hb hm => hb (by simp [hm]))) (by have := HLV3.out.g.lf; have := HLV3.out.g.lm; have := HQ.out (); omega) HLV3.out.g.g.of_.next_le (by have := HLV3.out.g.lh; have := HB3.out (); have := HE.out (); have := HQ.out (); omega) (by rw [HLV3.out.g.g.wait]; decide) (by have := HM.out (); omega)
        have hrs : foldA r0 ds = foldA r0 ds := (HB3.out ()).2.2.2
        have hgr : GoodRows (applyL (foldA r0 ds) l) := by rw [hrs]; exact HH.out.g.rows.apply (HALL.out ()) (by rw [← (HR8.out ()).1]; omega)
        have hac := HLV3.out.g.add l (by have := HM.out (); omega) (HALL.out ()) hgr hroom3
        have hau := fun hu => addL_up l HLV3.out.g.g hu (by have := HM.out (); omega) hroom3 (HALL.out ())
        have hwt := addL_wait L D l
        rw [HLV3.out.g.g.wait] at hwt
        have HWT := Lib.hid (fun (_ : Unit) => show (addL L D l).2.1.wait.length < 10000 by have := HM.out (); simp only [List.length_nil] at hwt; omega)
        clear hwt
        have HAC := Lib.hid hac
        have HAU := Lib.hid hau
        have HRS := Lib.hid (fun (_ : Unit) => show foldA r0 (ds ++ [l]) = applyL (foldA r0 ds) l by rw [foldA_snoc, hrs])
        have HAD := Lib.hid had
        obtain ⟨s0, s1', s2, s3, s4, s5, s6⟩ := HLV3.out.s.cells
        clear hac hau hrs hgr hroom3 had
        generalize addL L D l = AA at *
        obtain ⟨am, aD, aL⟩ := AA
        go_wp2_with fail
        refine HAD.out.mono ?_
        clear HAD
        rintro _ w4 ⟨rfl, Z, hD4, hL4, hF4, hZ4⟩
        have hFr4 : Frame (sb :: lb :: X) w w4 := HF3.out.1.then' hF4 (fun b hb => HF3.out.2 b (List.mem_cons_of_mem _ hb))
        have hZr4 : Fresh w (sb :: lb :: X) (sb :: lb :: Z) := fun b hb => by
          rcases List.mem_cons.1 hb with rfl | hb
          · exact .inl (by simp)
          rcases List.mem_cons.1 hb with rfl | hb
          · exact HF3.out.2 _ (by simp)
          · exact (hZ4 b hb).elim (fun g => HF3.out.2 b (by simp [g])) (fun g => .inr (Nat.le_trans HF3.out.1.size g))
        have HF4 := Lib.hid (And.intro hFr4 hZr4)
        clear s0 s1' s2 s3 s4 s5 s6
        rcases HAC.out with ⟨c1, c2, c3, c4⟩ | ⟨c1, c2, c3⟩
        · subst c1 c2
          have e0 : errV 0 = .nilIface := rfl
          rw [e0]
          clear e0
          have hsb := HLV3.out.sX
          have hne := HLV3.out.ne
          have hst4 : StoAt w4 sb db lb H vr := hF4.heap HLV3.out.s (by simp only [List.mem_cons, not_or]; exact ⟨hne, hsb⟩)
          have ho4 : OwnC w4 (.slice ao8 r8 cap8) (applyL (foldA r0 ds) l) := HO3.out.1.frame hF4 (fun b hb hm => (HO3.out.2 b hb).1 (List.mem_cons_of_mem _ hm))
          have hsZ : sb ∉ Z := fun hm => (hZ4 _ hm).elim hsb (fun g => by have := lt_of_heap HLV3.out.s; omega)
          have hlZ : lb ∉ Z := fun hm => (hZ4 _ hm).elim HLV3.out.lX (fun g => by have := lt_of_heap HLV3.out.l; omega)
          have hoZ : ∀ b, (Value.slice ao8 r8 cap8).ownBlock = some b → b ∉ sb :: lb :: Z := fun b hb hm => by
            rcases List.mem_cons.1 hm with rfl | hm
            · exact (HO3.out.2 b hb).1 (by simp)
            rcases List.mem_cons.1 hm with rfl | hm
            · exact (HO3.out.2 b hb).1 (by simp)
            · exact (hZ4 b hm).elim (fun g => (HO3.out.2 b hb).1 (by simp [g])) (fun g => by have := (HO3.out.2 b hb).2; omega)
          have HX4 := Lib.hid (And.intro hst4 (And.intro ho4 (And.intro hsZ (And.intro hlZ (And.intro hoZ (And.intro hD4 (And.intro hL4 (And.intro c3 (And.intro c4 hne)))))))))
          have x6 := cell_of hst4 6
          have y6 := frozen_of hst4
          clear hst4 ho4 hsZ hlZ hoZ hD4 hL4 c3 c4 hF4 hZ4 hFr4 hZr4 hsb hne
          simp only [List.getElem?_toArray, List.getElem?_cons_zero, List.getElem?_cons_succ] at x6
          go_wp2_with fail
          go_ret
          obtain ⟨g1, g2, g3, g4, g5, g6, g7, g8, g9, g10⟩ := HX4.out
          have hfs : Frame [sb] w4 (w4.setCell ⟨sb, 6, none⟩ (.slice ao8 r8 cap8)) := (Frame.refl [sb] w4).set (p := ⟨sb, 6, none⟩) (.inl (by simp)) _
          refine RetV.of (.inr (.inl ⟨HCF.out (), rfl, lb, Z, aD, H, .slice ao8 r8 cap8, r0, L.more l, ds ++ [l], ⟨g6.frame hfs (fun b hb hm => g3 (by rw [← List.mem_singleton.1 hm]; exact hb)), hfs.heap g7 (by simp; exact fun e => g10 e.symm), heap_set_same 6 _ g1, g3, g4, ?_, g8, g9⟩, HNX.out (), HRS.out (), HF4.out.1.trans (hfs.mono (by simp)), HF4.out.2, (HB3.out ()).1, (HB3.out ()).2.1, fun hu => (HAU.out ((HB3.out ()).2.2.1 hu)).2⟩))
          rw [HRS.out ()]
          exact ((ChgP.of_owns g2).mono (fun b _ hb => g5 b hb)).frame hfs (fun b hb hm => hb (by rw [List.mem_singleton.1 hm]; simp))
        · subst c1
          have e10 : errV 10 = .iface 101 (.int .i64 10) := rfl
          have HK := Lib.hid (show ∃ Y D', DiskAt w4 107 111 db Y D' ∧ Fresh w (sb :: lb :: X) Y ∧ Frame (sb :: lb :: X) w w4 ∧ D'.wait.length < 10000 ∧ ∀ keep, ∃ H' r0' L' ds', StoGood (D'.restart keep) n H' r0' L' ds' ∧
            (foldA r0' ds' = foldA r0 ds ∨ foldA r0' ds' = applyL (foldA r0 ds) l) ∧ H'.epoch ≤ H.epoch + 1 ∧ H'.first ≤ H.first + (n - 90) from
            ⟨Z, aD, hD4, fun b hb => hZr4 b (by simp [hb]), hFr4, HWT.out (), fun keep => by
              rcases c3 keep with g | g
              · exact ⟨_, _, _, _, g, .inl rfl, (HB3.out ()).1, (HB3.out ()).2.1⟩
              · exact ⟨_, _, _, _, g, .inr (HRS.out ()), (HB3.out ()).1, (HB3.out ()).2.1⟩⟩)
          have HNR := Lib.hid (fun (_ : Unit) => show ¬ D.Ready from fun hu => by have := (HAU.out ((HB3.out ()).2.2.1 hu)).1; simp at this)
          clear hD4 hL4 c3 hF4 hZ4 hFr4 hZr4
          go_wp2_with fail
          go_ret
          exact RetV.of (.inr (.inr ⟨HCF.out (), rfl, HNR.out (), HK.out⟩))

end Go.Proofs.Ytkapmpngglibjaa

/- The reference's store: a commit. Conditions: the contract's own premises. -/
namespace Go.Proofs.Ytkapmpngglibjaa
open Go Go.RowKit Go.Shelf

/-- The reference's store, at block mb. -/
def RefAt (w : World) (mb : Nat) (vr : Value) (used many : Nat) : Prop := w.heap[mb]? = some (.cells #[vr, .int .i64 (used : Int), .int .i64 (many : Int)] 96 (0, 0))
theorem RefAt.cells {w : World} {mb : Nat} {vr : Value} {used many : Nat} (h : RefAt w mb vr used many) : w.cell? ⟨mb, 0, none⟩ = some vr ∧ w.cell? ⟨mb, 1, none⟩ = some (.int .i64 (used : Int)) ∧ w.cell? ⟨mb, 2, none⟩ = some (.int .i64 (many : Int)) :=
  ⟨cell_of h 0, cell_of h 1, cell_of h 2⟩

/-- How many sectors the reference counts behind a deed. -/
def rcomN (used many : Nat) (l : List Chg) : Nat := (if many < used + (l.length + 1) then 0 else used) + l.length + 1

theorem rset3 {w : World} {mb : Nat} {vr v u1 : Value} {u many : Nat} (h : RefAt w mb vr u many) (u3 : Nat) : RefAt (((w.setCell ⟨mb, 1, none⟩ u1).setCell ⟨mb, 1, none⟩ (.int .i64 (u3 : Int))).setCell ⟨mb, 0, none⟩ v) mb v u3 many :=
  heap_set_same 0 _ (heap_set_same 1 _ (heap_set_same 1 u1 h))

def RComR (w : World) (mb : Nat) (rows l : List Chg) (used many : Nat) (w' : World) : Prop :=
  (comF (many + 90) rows l ≠ 0 ∧ Below w.heap.size w w') ∨
  (comF (many + 90) rows l = 0 ∧ Frame [mb] w w' ∧ ∃ vr', RefAt w' mb vr' (rcomN used many l) many ∧ OwnC w' vr' (applyL rows l) ∧ ∀ k, vr'.ownBlock = some k → w.heap.size ≤ k)

set_option maxHeartbeats 8000000 in
set_option maxRecDepth 100000 in
theorem rcommit_any (mb : Nat) (vr vl : Value) (rows l : List Chg) (used many : Nat) (w : World) (hM : RefAt w mb vr used many) (hR : ChangesAt w vr rows) (hV : ChangesAt w vl l) (hs : Rising rows) (hrn : rows.length ≤ 64) (hl : l.length ≤ 100) (hu : used ≤ many) (hmany : many ≤ 200) :
    Calls Try.prog 57 #[.pointer (some ⟨mb, 0, none⟩), vl] w (Ret (errN (comF (many + 90) rows l)) (RComR w mb rows l used many)) := by
  have HV := Lib.hid hV
  obtain ⟨ao, cap, rfl, hm, hr⟩ := hV
  simp only [List.length_map] at *
  have HR := Lib.hid hr
  have HRW := Lib.hid hR
  have HMM := Lib.hid hM
  have HS := Lib.hid (fun (_ : Unit) => And.intro hs (And.intro hrn hu))
  obtain ⟨m, hmm⟩ : ∃ m, m = l.length := ⟨_, rfl⟩
  have HM := Lib.hid (fun (_ : Unit) => hmm)
  rw [← hmm] at hl HV ⊢
  have m0 : (0 : Int) ≤ (m : Int) := by omega
  have m1 : (m : Int) ≤ 100 := by omega
  have u0 : (0 : Int) ≤ (used : Int) := by omega
  have u1 : (used : Int) ≤ (many : Int) := by omega
  have u2 : (many : Int) ≤ 200 := by omega
  clear hr hm hmm hR hs hrn hM
  by_cases h12 : 12 < m
  · have h12' : (12 : Int) < (m : Int) := by omega
    have HEND := Lib.hid (fun (_ : Unit) => comF_many (n := many + 90) (rows := rows) (l := l) (by have := HM.out (); omega))
    go_enter Try.func57, Try.ntmps57
    go_wp2_with fail
    go_ret
    exact Ret.of (by rw [HEND.out ()]; rfl) (.inl ⟨by rw [HEND.out ()]; decide, Below.refl _ _⟩)
  have hn12 : (m : Int) ≤ 12 := by omega
  have s1 : IntKind.i64.wrap ((m : Int) + 1) = (m : Int) + 1 := IntWalk.i64_in _ (by omega)
  go_enter Try.func57, Try.ntmps57
  go_wp2_with fail
  go_loopw [5] (fun i wr => ∃ k : Nat, k ≤ m ∧ i = .int .i64 (k : Int) ∧ Hid (Below w.heap.size w wr) ∧ Hid (firstFault l = firstFault (l.drop k))) (fun i _ => m - (intOf i).toNat)
  case atStart => exact ⟨0, Nat.zero_le _, rfl, Lib.hid (Below.refl _ _), Lib.hid rfl⟩
  case round =>
    obtain ⟨k, hk, rfl, HB, HFF⟩ := hrel
    have k0 : (0 : Int) ≤ (k : Int) := by omega
    by_cases hlt : k < m
    · have k1 : (k : Int) < (m : Int) := by omega
      obtain ⟨⟨ck, cv, cg⟩, hc⟩ : ∃ a, l[k]? = some a := ⟨_, List.getElem?_eq_getElem (by rw [← HM.out ()]; exact hlt)⟩
      obtain ⟨b1, off, rfl, e1⟩ := HR.out k _ (by rw [List.getElem?_map, hc]; rfl)
      have hff : firstFault (l.drop k) = firstFault (⟨ck, cv, cg⟩ :: l.drop (k + 1)) := by
        obtain ⟨h1, h2⟩ := List.getElem?_eq_some_iff.1 hc
        rw [List.drop_eq_getElem_cons h1, h2]
      rw [firstFault] at hff
      have HF2 := Lib.hid (HFF.out.trans hff)
      have up : ∀ (a : Addr) (u : Value), w.cell? a = some u → wr.cell? a = some u := fun a u hu => (HB.out.cell (World.block_lt_of_cell? w _ hu)).trans hu
      have d0 := up _ _ (e1 0 _ rfl)
      have d1 := up _ _ (e1 1 _ rfl)
      have d2 := up _ _ (e1 2 _ rfl)
      clear hc hff e1 up
      simp only [Nat.add_zero] at d0
      go_wp2_with fail
      refine (fault_any ck cv cg _).mono ?_
      rintro e w4 ⟨rfl, hB4⟩
      have HB4 := Lib.hid (HB.out.trans (hB4.mono HB.out.size))
      clear hB4 d0 d1 d2
      generalize hfmg : faultOf ⟨ck, cv, cg⟩ = fm at *
      unfold errN
      by_cases hfm : fm = 0
      · subst hfm
        have HF3 := Lib.hid (show firstFault l = firstFault (l.drop (k + 1)) by rw [HF2.out, if_pos rfl])
        clear hfmg
        go_wp2_with fail
        exact ⟨⟨k + 1, by omega, by go_num, HB4, HF3⟩, by simp [intOf]; omega⟩
      · have hffm : firstFault l = fm := by rw [HF2.out, if_neg hfm]
        have fm0 : (0 : Int) < (fm : Int) := by omega
        have HEND := Lib.hid (fun (_ : Unit) => And.intro (show comF (many + 90) rows l = fm by rw [comF_fault (by have := HM.out (); omega) (by rw [hffm]; exact hfm), hffm]) hfm)
        clear hffm hfm hfmg
        go_wp2_with fail
        go_ret
        exact Ret.of (by rw [(HEND.out ()).1]; rfl) (.inl ⟨by rw [(HEND.out ()).1]; exact (HEND.out ()).2, HB4.out⟩)
    · obtain rfl : k = m := by omega
      clear hlt hk
      have hall : firstFault l = 0 := by
        rw [HFF.out, List.drop_of_length_le (by rw [← HM.out ()]; exact Nat.le_refl _)]
        rfl
      have HALL := Lib.hid (fun (_ : Unit) => hall)
      clear hall
      have hM1 : RefAt wr mb vr used many := (HB.out.block _ (lt_of_heap HMM.out)).trans HMM.out
      obtain ⟨s0, s1', s2⟩ := hM1.cells
      have HM1 := Lib.hid hM1
      obtain ⟨r8, hr8⟩ : ∃ r8, r8 = (applyL rows l).length := ⟨_, rfl⟩
      have hlen8 := applyL_length l rows
      have hap := applied_any vr (.slice ao k cap) rows l wr (HRW.out.below HB.out) (HV.out.below HB.out) (HS.out ()).1 (by have := HM.out (); have := HS.out (); omega)
      rw [refL_applyL l rows (HS.out ()).1] at hap
      have HR8 := Lib.hid (fun (_ : Unit) => And.intro hr8 (show r8 ≤ 200 by have := HM.out (); have := HS.out (); omega))
      have HAP := Lib.hid hap
      clear hr8 hlen8 hap hM1
      go_wp2_with fail
      refine HAP.out.mono ?_
      clear HAP
      rintro _ w1 ⟨v8, rfl, ho8, hB1⟩
      obtain ⟨ao8, cap8, rfl⟩ := owns_form ho8
      rw [← (HR8.out ()).1]
      have HO8 := Lib.hid ho8
      have HB8 := Lib.hid (fun k hk => show w.heap.size ≤ k from Nat.le_trans HB.out.size (World.ownsRow.lt ho8 k hk).1)
      have HS1 := Lib.hid (show Below w.heap.size w w1 from HB.out.trans (hB1.mono HB.out.size))
      have HM2 := Lib.hid (show RefAt w1 mb vr used many from (hB1.block _ (lt_of_heap HM1.out)).trans HM1.out)
      have r80 : (0 : Int) ≤ (r8 : Int) := by omega
      have r81 : (r8 : Int) ≤ 200 := by have := (HR8.out ()).2; omega
      clear ho8 hB1 s0 s1' s2 HM1
      obtain ⟨s0, s1', s2⟩ := HM2.out.cells
      by_cases hbig : 64 < r8
      · have hbig' : (64 : Int) < (r8 : Int) := by omega
        have HEND := Lib.hid (fun (_ : Unit) => comF_nine (n := many + 90) (rows := rows) (l := l) (by have := HM.out (); omega) (HALL.out ()) (.inl (by rw [← (HR8.out ()).1]; exact hbig)))
        go_wp2_with fail
        go_ret
        exact Ret.of (by rw [HEND.out ()]; rfl) (.inl ⟨by rw [HEND.out ()]; decide, HS1.out⟩)
      have hbig' : (r8 : Int) ≤ 64 := by omega
      by_cases hfew : many < k + 1
      · have hfew' : (many : Int) < (k : Int) + 1 := by omega
        have HEND := Lib.hid (fun (_ : Unit) => comF_nine (n := many + 90) (rows := rows) (l := l) (by have := HM.out (); omega) (HALL.out ()) (.inr (by have := HM.out (); omega)))
        go_wp2_with fail
        go_ret
        exact Ret.of (by rw [HEND.out ()]; rfl) (.inl ⟨by rw [HEND.out ()]; decide, HS1.out⟩)
      have hfew' : (k : Int) + 1 ≤ (many : Int) := by omega
      have HCF := Lib.hid (fun (_ : Unit) => comF_zero (n := many + 90) (rows := rows) (l := l) (by have := HM.out (); omega) (HALL.out ()) (by rw [← (HR8.out ()).1]; exact hbig) (by have := HM.out (); omega))
      clear hbig hfew
      go_wp2_with fail
      have t2 : IntKind.i64.wrap ((many : Int) - (used : Int)) = (many : Int) - (used : Int) := IntWalk.i64_in _ (by omega)
      have t3 : IntKind.i64.wrap ((used : Int) + (k : Int)) = (used : Int) + (k : Int) := IntWalk.i64_in _ (by omega)
      have t4 : IntKind.i64.wrap ((used : Int) + (k : Int) + 1) = (used : Int) + (k : Int) + 1 := IntWalk.i64_in _ (by omega)
      refine wp_region_plan (fun w5 => RefAt w5 mb vr used many ∧ Below w.heap.size w w5) 75 [([0, 3, 7, 1, 4, 8, 2, 5, 9, 6, 10, 11, 12], [], false)] (by kernel_rfl) (by kernel_rfl) ?_
      apply wpStages_last
      case hT => exact ⟨HM2.out, HS1.out.drew⟩
      case hn => exact Nat.le_refl _
      case hq =>
        rintro w5 ⟨hM5, -⟩
        obtain ⟨s0, s1', s2⟩ := hM5.cells
        clear hM5
        simp only [picked, List.filterMap_cons, List.filterMap_nil, List.getElem?_cons_zero, List.getElem?_cons_succ]
        repeat still_step
        exact wpStill_nil rfl
      simp only [picked, List.filterMap_nil]
      refine wpList_nil (OnlyNormal.mk ?_)
      have HO8W := Lib.hid (show OwnC w1 (.slice ao8 r8 cap8) (applyL rows l) ∧ ∀ b, (Value.slice ao8 r8 cap8).ownBlock = some b → w.heap.size ≤ b from by
        rw [(HR8.out ()).1]
        exact ⟨owns_zero HO8.out, HB8.out⟩)
      have HMW := Lib.hid (fun (_ : Unit) => show mb < w.heap.size from lt_of_heap HMM.out)
      clear HO8 HB8
      have z0 := frozen_of HM2.out
      by_cases hroom : many < used + (k + 1)
      · have hroom' : (many : Int) - (used : Int) < (k : Int) + 1 := by omega
        have HNX := Lib.hid (fun (_ : Unit) => show 0 + l.length + 1 = rcomN used many l by rw [rcomN, ← HM.out (), if_pos hroom])
        clear hroom
        go_wp2_with fail
        go_ret
        refine Ret.of (by rw [HCF.out ()]; rfl) (.inr ⟨HCF.out (), (Frame.of_below [mb] HS1.out).trans ((((Frame.refl [mb] w1).drew.set (p := ⟨mb, 1, none⟩) (.inl (by simp)) _).set (p := ⟨mb, 1, none⟩) (.inl (by simp)) _).set (p := ⟨mb, 0, none⟩) (.inl (by simp)) _), .slice ao8 r8 cap8, ?_, HO8W.out.1.frame ((((Frame.refl [mb] w1).drew.set (p := ⟨mb, 1, none⟩) (.inl (by simp)) _).set (p := ⟨mb, 1, none⟩) (.inl (by simp)) _).set (p := ⟨mb, 0, none⟩) (.inl (by simp)) _) (fun b hb hm => by have := HO8W.out.2 b hb; have := HMW.out (); rw [List.mem_singleton.1 hm] at *; omega), HO8W.out.2⟩)
        rw [← HNX.out (), ← HM.out ()]
        unfold RefAt
        rw [show ((0 + k + 1 : Nat) : Int) = (k : Int) + 1 by omega]
        exact heap_set_same 0 _ (heap_set_same 1 _ (heap_set_same 1 _ HM2.out))
      · have hroom' : (k : Int) + 1 ≤ (many : Int) - (used : Int) := by omega
        have HNX := Lib.hid (fun (_ : Unit) => show used + l.length + 1 = rcomN used many l by rw [rcomN, ← HM.out (), if_neg hroom])
        clear hroom
        go_wp2_with fail
        go_ret
        refine Ret.of (by rw [HCF.out ()]; rfl) (.inr ⟨HCF.out (), (Frame.of_below [mb] HS1.out).trans (((Frame.refl [mb] w1).drew.set (p := ⟨mb, 1, none⟩) (.inl (by simp)) _).set (p := ⟨mb, 0, none⟩) (.inl (by simp)) _), .slice ao8 r8 cap8, ?_, HO8W.out.1.frame (((Frame.refl [mb] w1).drew.set (p := ⟨mb, 1, none⟩) (.inl (by simp)) _).set (p := ⟨mb, 0, none⟩) (.inl (by simp)) _) (fun b hb hm => by have := HO8W.out.2 b hb; have := HMW.out (); rw [List.mem_singleton.1 hm] at *; omega), HO8W.out.2⟩)
        rw [← HNX.out (), ← HM.out ()]
        unfold RefAt
        rw [show ((used + k + 1 : Nat) : Int) = (used : Int) + (k : Int) + 1 by omega]
        exact heap_set_same 0 _ (heap_set_same 1 _ HM2.out)

end Go.Proofs.Ytkapmpngglibjaa
