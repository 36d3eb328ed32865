/- The law TopDisk, walked. Conditions: the contract's own premises. -/
import Derived.Test.YtkapmpngglibjaaTop1
namespace Go.Proofs.Ytkapmpngglibjaa
open Go Go.RowKit

theorem errV_zero : errV 0 = .nilIface := rfl

set_option maxHeartbeats 4000000 in
set_option maxRecDepth 100000 in
theorem topDisk_any (v1 v2 : Value) (l more : List (ActM × Value)) (keep : Nat) (w : World) (h1 : ActsAt w v1 l) (h2 : ActsAt w v2 more) (hkeep : keep < 2 ^ 64) :
    Calls Try.prog 4 #[v1, v2, .int .u64 (keep : Int)] w (Ret (.bool true) fun w' => Below w.heap.size w w') := by
  have HK := Lib.hid hkeep
  have H1 := Lib.hid h1
  have H2 := Lib.hid h2
  clear h1 h2 hkeep
  go_enter Try.func4, Try.ntmps4
  go_wp2_with fail
  refine (new_good 4 _ (by omega) (by omega)).mono ?_
  rintro e w1 ⟨vd, rfl, b, X, rfl, hD, hB, hX⟩
  have hO : One w.heap.size w w1 b X (DM.new 4) := ⟨hD, hX, hB, Nat.le_refl _⟩
  have hU := DM.new_up 4
  have hn4 : (DM.new 4).now.length = 4 := by simp [DM.new]
  generalize DM.new 4 = D0 at *
  clear hD hX hB
  go_wp2_with fail
  refine (flush_any b X D0 _ hO.d).mono ?_
  rintro e w2 ⟨rfl, hD, hF⟩
  replace hO := hO.moved hD hF (Fresh.refl _ _)
  rw [hU.flush] at hO ⊢
  have hn4 : ({ D0 with kept := D0.now, wait := [] } : DM).now.length = 4 := hn4
  have hw0 : ({ D0 with kept := D0.now, wait := [] } : DM).wait.length = 0 := rfl
  have hU : ({ D0 with kept := D0.now, wait := [] } : DM).Up := ⟨hU.down, hU.fuse⟩
  simp only at hO
  rw [errV_zero]
  generalize ({ D0 with kept := D0.now, wait := [] } : DM) = D1 at *
  clear hD hF
  go_wp2_with fail
  refine (sectors_any 107 111 b X D1 _ hO.d).mono ?_
  rintro e w3 ⟨rfl, rfl⟩
  rw [hn4]
  go_wp2_with fail
  refine (lightActs_any _ l 40 _ (H1.out.below hO.below)).mono ?_
  rintro e w3 ⟨rfl, rfl⟩
  by_cases hl1 : lightActs l 40 = true
  case neg =>
    rw [Bool.not_eq_true] at hl1
    rw [hl1]
    go_wp2_with fail
    go_ret
    exact Ret.of rfl hO.below
  rw [hl1]
  go_wp2_with fail
  refine (lightActs_any _ more 60 _ (H2.out.below hO.below)).mono ?_
  rintro e w3 ⟨rfl, rfl⟩
  by_cases hl2 : lightActs more 60 = true
  case neg =>
    rw [Bool.not_eq_true] at hl2
    rw [hl2]
    go_wp2_with fail
    go_ret
    exact Ret.of rfl hO.below
  rw [hl2]
  have hlen1 : l.length ≤ 40 := by
    simp [lightActs] at hl1
    omega
  have hlen2 : more.length ≤ 60 := by
    simp [lightActs] at hl2
    omega
  clear hl1 hl2
  obtain ⟨ao1, cap1, rfl, hm1, hg1⟩ := H1.out.get
  obtain ⟨ao2, cap2, rfl, hm2, hg2⟩ := H2.out.get
  have HG1 := Lib.hid hg1
  have HG2 := Lib.hid hg2
  clear hm1 hm2 hg1 hg2 H1 H2
  obtain ⟨n1, hn1⟩ : ∃ n, n = l.length := ⟨_, rfl⟩
  obtain ⟨n2, hn2⟩ : ∃ n, n = more.length := ⟨_, rfl⟩
  rw [← hn1] at hlen1 ⊢
  rw [← hn2] at hlen2 ⊢
  have HN1 := Lib.hid hn1
  have HN2 := Lib.hid hn2
  clear hn1 hn2
  have i0 : (0 : Int) ≤ (n1 : Int) := by omega
  have i1 : (n1 : Int) ≤ 40 := by omega
  have i2 : (0 : Int) ≤ (n2 : Int) := by omega
  have i3 : (n2 : Int) ≤ 60 := by omega
  go_wp2_with fail
  go_loopw [9] (fun i wr => ∃ k : Nat, k ≤ n1 ∧ i = .int .i64 (k : Int) ∧ ∃ X D, One w.heap.size w wr b X D ∧ D.Up ∧ D.now.length = 4 ∧ D.wait.length ≤ k) (fun i _ => n1 - (intOf i).toNat)
  case atStart => exact ⟨0, by omega, rfl, X, D1, hO, hU, hn4, by omega⟩
  case round =>
    obtain ⟨k, hk, rfl, X2, D2, hO2, hU2, hn2, hw2⟩ := hrel
    clear hO hU hn4 hw0
    have b0 : (0 : Int) ≤ (k : Int) := by omega
    by_cases hlt : k < n1
    · have b1 : (k : Int) < (n1 : Int) := by omega
      obtain ⟨x, hx⟩ : ∃ x, l[k]? = some x := ⟨_, List.getElem?_eq_getElem (by rw [← HN1.out]; exact hlt)⟩
      obtain ⟨ba, off, xo, xn, xc, rfl, hx2, g1, g2, -, hc⟩ := HG1.out k x hx
      obtain ⟨-, c1, -, c3, -, -⟩ := hc wr hO2.below
      clear hc hx2 hx
      go_wp2_with fail
      refine wp_region_plan (fun w2 => w2 = wr.drew) 152 [([0, 1, 2, 6, 7, 3, 8, 4, 9, 5, 10], [11], false)] (by kernel_rfl) (by kernel_rfl) ?_
      apply wpStages_last
      case hT => rfl
      case hn => exact Nat.le_refl _
      case hq =>
        rintro w2 rfl
        simp only [picked, List.filterMap_cons, List.filterMap_nil, List.getElem?_cons_zero, List.getElem?_cons_succ]
        repeat still_step
        exact wpStill_nil rfl
      simp only [picked, List.filterMap_cons, List.filterMap_nil, List.getElem?_cons_zero, List.getElem?_cons_succ]
      go_wp2_with fail
      refine (write_any b X2 D2 x.1.n x.1.s _ hO2.drew.d (by omega)).mono ?_
      rintro e wy ⟨rfl, X3, hd3, hf3, hr3⟩
      have hO3 := hO2.drew.moved hd3 hf3 hr3
      have hU3 : (D2.write x.1.n x.1.s).2.Up ∧ (D2.write x.1.n x.1.s).2.now.length = 4 ∧ (D2.write x.1.n x.1.s).2.wait.length ≤ k + 1 := by
        rcases hU2.write x.1.n x.1.s with h | ⟨m, -, -, h⟩
        · rw [h]; exact ⟨hU2, hn2, by simp only; omega⟩
        · rw [h]; exact ⟨hU2.put _ _, by simp [DM.put, hn2], by simp [DM.put]; omega⟩
      obtain ⟨u1, u2, u3⟩ := hU3
      generalize (D2.write x.1.n x.1.s).2 = D3 at *
      generalize (D2.write x.1.n x.1.s).1 = m at *
      clear hd3 hf3 hr3 hO2 hU2
      go_wp2_with fail
      refine OnlyNormal.mk ?_
      go_wp2_with fail
      go_roundw
      case rel => exact ⟨k + 1, by omega, by go_num, X3, D3, hO3, u1, u2, u3⟩
      case measure => simp [intOf]; omega
    · obtain rfl : k = n1 := by omega
      have hwx : D2.wait.length ≤ 40 := by omega
      clear hw2
      have hkeep0 : keep < 18446744073709551616 := HK.out
      clear hkeep0
      go_wp2_with fail
      refine (flush_any b X2 D2 _ hO2.d).mono ?_
      rintro e w2 ⟨rfl, hD, hF⟩
      have hO := hO2.moved hD hF (Fresh.refl _ _)
      rw [hU2.flush] at hO ⊢
      have hn4 : ({ D2 with kept := D2.now, wait := [] } : DM).now.length = 4 := hn2
      have hw0 : ({ D2 with kept := D2.now, wait := [] } : DM).wait = [] := rfl
      have hkn : ({ D2 with kept := D2.now, wait := [] } : DM).kept = ({ D2 with kept := D2.now, wait := [] } : DM).now := rfl
      have hU : ({ D2 with kept := D2.now, wait := [] } : DM).Up := ⟨hU2.down, hU2.fuse⟩
      simp only at hO
      rw [errV_zero]
      generalize ({ D2 with kept := D2.now, wait := [] } : DM) = D3 at *
      clear hD hF hO2 hU2 hn2
      go_wp2_with fail
      have ht0 : TextsAt (w2.alloc (.cells #[.string ⟨#[]⟩, .string ⟨#[]⟩, .string ⟨#[]⟩, .string ⟨#[]⟩] 53)) w2.heap.size [⟨#[]⟩, ⟨#[]⟩, ⟨#[]⟩, ⟨#[]⟩] := ⟨53, heap_alloc_new w2 _⟩
      have hnX : w2.heap.size ∉ X2 := fun h => Nat.lt_irrefl _ (hO.d.lt _ h)
      have hbw : w.heap.size ≤ w2.heap.size := hO.below.size
      replace hO := hO.alloc (.cells #[.string ⟨#[]⟩, .string ⟨#[]⟩, .string ⟨#[]⟩, .string ⟨#[]⟩] 53)
      generalize w2.alloc (.cells #[.string ⟨#[]⟩, .string ⟨#[]⟩, .string ⟨#[]⟩, .string ⟨#[]⟩] 53) = w3 at *
      generalize w2.heap.size = wb at *
      go_loopw [11] (fun i wr => ∃ k : Nat, k ≤ 4 ∧ i = .int .i64 (k : Int) ∧ One w.heap.size w wr b X2 D3 ∧ ∃ T : List ByteArray, TextsAt wr wb T ∧ T.length = 4 ∧ ∀ i, i < k → T.getD i ByteArray.empty = D3.now.getD i ByteArray.empty) (fun i _ => 4 - (intOf i).toNat)
      case atStart => exact ⟨0, by omega, rfl, hO, _, ht0, rfl, fun i hi => absurd hi (Nat.not_lt_zero _)⟩
      case round =>
        obtain ⟨j, hj, rfl, hO4, T, hT, hTl, hTe⟩ := hrel
        clear ht0 hO
        have b0 : (0 : Int) ≤ (j : Int) := by omega
        by_cases hlt : j < 4
        · have b1 : (j : Int) < 4 := by omega
          go_wp2_with fail
          refine (read_any b X2 D3 j _ hO4.d).mono ?_
          rintro e w4 ⟨rfl, rfl⟩
          rw [hU.read (by rw [hn4]; exact hlt)]
          unfold readV
          simp only
          rw [errV_zero]
          have hz := hT.frozen j
          have hc := hT.cell j (by omega)
          generalize hs : D3.now.getD j ByteArray.empty = s
          have HS := Lib.hid hs
          clear hs
          go_wp2_with fail
          refine ⟨⟨j + 1, by omega, by go_num, hO4.other (Y := [wb]) ((Frame.refl _ _).set (.inl (by simp)) _) (by simpa using hbw) (fun k hk h => hnX (by simp at h; exact h ▸ hk)), T.set j s, hT.set j s, by simp [hTl], fun i hi => ?_⟩, by simp [intOf]; omega⟩
          by_cases hij : i = j
          · subst hij
            rw [HS.out]
            simp [List.getD, hTl, hlt]
          · rw [← hTe i (by omega)]
            simp [List.getD, Ne.symm hij]
        · have hj4 : j = 4 := by omega
          have b1 : (4 : Int) ≤ (j : Int) := by omega
          have hTn : T = keepFrom keep 0 D3.wait D3.kept := by
            rw [hw0, hkn]
            show T = D3.now
            subst hj4
            apply List.ext_getElem (by rw [hTl, hn4])
            intro i h1 h2
            have := hTe i (by omega)
            simpa [List.getD, h1, h2] using this
          clear hTe hj4
          have hOa : ∃ X D T, One w.heap.size w wr b X D ∧ D.Up ∧ D.now.length = 4 ∧ D.wait.length = 0 ∧ TextsAt wr wb T ∧ T = keepFrom keep 0 D.wait D.kept ∧ wb ∉ X := ⟨X2, D3, T, hO4, hU, hn4, by rw [hw0]; rfl, hT, hTn, hnX⟩
          clear hO4 hU hn4 hw0 hkn hT hTl hTn hnX
          have HOA := Lib.hid hOa
          clear hOa
          go_wp2_with fail
          go_loopw [14, 15] (fun c i wr => ∃ (k : Nat) (X : List Nat) (D : DM) (T : List ByteArray), k ≤ n2 ∧ i = .int .i64 (k : Int) ∧ c = .int .i64 (D.wait.length : Int) ∧ One w.heap.size w wr b X D ∧ D.Up ∧ D.now.length = 4 ∧ D.wait.length ≤ k ∧ TextsAt wr wb T ∧ T = keepFrom keep 0 D.wait D.kept ∧ wb ∉ X) (fun _ i _ => n2 - (intOf i).toNat)
          case atStart =>
            obtain ⟨X, D, T, o1, o2, o3, o4, o5, o6, o7⟩ := HOA.out
            exact ⟨0, X, D, T, Nat.zero_le _, rfl, by rw [o4]; rfl, o1, o2, o3, by rw [o4]; exact Nat.le_refl _, o5, o6, o7⟩
          case round =>
            obtain ⟨k, X5, D5, T5, hk5, rfl, rfl, hO5, hU5, hn5, hw5, hT5, hTk, hX5⟩ := hrel
            have b0 : (0 : Int) ≤ (k : Int) := by omega
            by_cases hlt : k < n2
            · have b1 : (k : Int) < (n2 : Int) := by omega
              obtain ⟨x, hx⟩ : ∃ x, more[k]? = some x := ⟨_, List.getElem?_eq_getElem (by rw [← HN2.out]; exact hlt)⟩
              obtain ⟨ba, off, xo, xn, xc, rfl, hx2, g1, g2, -, hc⟩ := HG2.out k x hx
              obtain ⟨-, c1, -, c3, -, -⟩ := hc _ hO5.below
              clear hx2 hx
              have HC := Lib.hid hc
              clear hc
              go_wp2_with fail
              refine wp_region_plan (fun w2 => w2 = wr.drew) 152 [([0, 1, 2, 6, 7, 3, 8, 4, 9, 5, 10], [11, 12], false)] (by kernel_rfl) (by kernel_rfl) ?_
              apply wpStages_last
              case hT => rfl
              case hn => exact Nat.le_refl _
              case hq =>
                rintro w2 rfl
                simp only [picked, List.filterMap_cons, List.filterMap_nil, List.getElem?_cons_zero, List.getElem?_cons_succ]
                repeat still_step
                exact wpStill_nil rfl
              simp only [picked, List.filterMap_cons, List.filterMap_nil, List.getElem?_cons_zero, List.getElem?_cons_succ]
              go_wp2_with fail
              refine (write_any b X5 D5 x.1.n x.1.s _ hO5.drew.d (by omega)).mono ?_
              rintro e wy ⟨rfl, X6, hd6, hf6, hr6⟩
              have hO6 := hO5.drew.moved hd6 hf6 hr6
              have hlt5 := hT5.lt
              have hT6 := (TextsAt.drew hT5).frame hf6 hX5
              have hX6 : wb ∉ X6 := fun h => (hr6 wb h).elim hX5 fun hge => absurd (Nat.lt_of_lt_of_le hlt5 hge) (Nat.lt_irrefl _)
              rcases hU5.write x.1.n x.1.s with h | ⟨m, hm, hm4, h⟩
              · rw [h] at hO6 ⊢
                simp only at hO6
                clear hd6 hf6 hr6 h hlt5
                have e1 : errV 1 = .iface 101 (.int .i64 1) := rfl
                rw [e1]
                go_wp2_with fail
                refine OnlyNormal.mk ?_
                go_wp2_with fail
                go_roundw
                case rel => exact ⟨k + 1, X6, D5, T5, by omega, by go_num, rfl, hO6, hU5, hn5, by omega, hT6, hTk, hX6⟩
                case measure => simp [intOf]; omega
              · rw [h] at hO6 ⊢
                simp only at hO6
                clear hd6 hf6 hr6 h hlt5
                have hcc := HC.out _ hO6.below
                obtain ⟨⟨kind, s, t, an, ak, ch⟩, cv⟩ := x
                simp only at hm hcc hO6 ⊢
                subst hm
                obtain ⟨-, d1, -, d3, -, -⟩ := hcc
                simp only at d1 d3
                have hU6 := hU5.put m s
                have hn6 : (D5.put m s).now.length = 4 := by simp [DM.put, hn5]
                have hw6 : (D5.put m s).wait.length = D5.wait.length + 1 := by simp [DM.put]
                have hkp := keep_put D5 keep m s (by omega)
                rw [← hTk] at hkp
                have hget : (D5.put m s).now.getD m ByteArray.empty = padTo 140 s := by simp [DM.put, hm4]
                obtain ⟨c, hc⟩ : ∃ c, c = D5.wait.length := ⟨_, rfl⟩
                rw [← hc] at hw6 hw5 hkp ⊢
                have HCE := Lib.hid hc
                have HKP := Lib.hid hkp
                have HW6 := Lib.hid hw6
                have HTK := Lib.hid hTk
                have HG := Lib.hid hget
                clear hkp hw6 hTk hc hget c1 c3
                generalize hD6 : D5.put m s = D6 at *
                clear hD6
                rw [hn5] at hm4
                have hTl : T5.length = 4 := by rw [HTK.out, keepFrom_length, hO5.d.ok.len, hn5]
                have HTL := Lib.hid hTl
                clear hTl
                have c0 : (0 : Int) ≤ (c : Int) := by omega
                have c60 : (c : Int) < 60 := by omega
                have m0 : (0 : Int) ≤ (m : Int) := by omega
                have m4 : (m : Int) < 4 := by omega
                have hshr := fun w => run_shr keep c (by omega) 35 .i64 w
                have hbit := bit_of keep c HK.out
                have hcast : ((keep / 2 ^ c : Nat) : Int) = (keep : Int) / 2 ^ c := by simp
                rw [hcast] at hbit
                simp only [hcast] at hshr
                clear hcast
                have e1 : errV 0 = .nilIface := rfl
                rw [e1]
                clear e1
                by_cases hb : keep.testBit c = true
                · rw [if_pos hb] at hbit
                  have HB := Lib.hid hb
                  clear hb
                  go_wp2_with fail
                  refine OnlyNormal.mk ?_
                  go_wp2_with fail
                  refine (read_any b X6 D6 m _ hO6.d).mono ?_
                  rintro e w4 ⟨rfl, rfl⟩
                  rw [hU6.read (by rw [hn6]; exact hm4), HG.out]
                  unfold readV
                  simp only
                  rw [errV_zero]
                  have hz := hT6.frozen m
                  have hc := hT6.cell m (by rw [HTL.out]; exact hm4)
                  go_wp2_with fail
                  refine ⟨⟨k + 1, X6, D6, T5.set m (padTo 140 s), by omega, by go_num, by rw [HW6.out]; go_num, hO6.other (Y := [wb]) ((Frame.refl _ _).set (.inl (by simp)) _) (by simpa using hbw) (fun q hq h => hX6 (by simp at h; exact h ▸ hq)), hU6, hn6, by rw [HW6.out]; omega, hT6.set m _, ?_, hX6⟩, by simp [intOf]; omega⟩
                  have hkp := HKP.out
                  rw [HB.out, if_pos rfl] at hkp
                  exact hkp.symm
                · rw [if_neg hb] at hbit
                  rw [Bool.not_eq_true] at hb
                  have HB := Lib.hid hb
                  clear hb
                  go_wp2_with fail
                  refine OnlyNormal.mk ?_
                  go_wp2_with fail
                  go_roundw
                  case rel =>
                    have hkp := HKP.out
                    rw [HB.out, if_neg (by simp)] at hkp
                    exact ⟨k + 1, X6, D6, T5, by omega, by go_num, by rw [HW6.out]; go_num, hO6, hU6, hn6, by rw [HW6.out]; omega, hT6, hkp.symm, hX6⟩
                  case measure => simp [intOf]; omega
            · obtain rfl : k = n2 := by omega
              have hwx : D5.wait.length < 10000 := by omega
              have hr1 : (D5.restart keep).now = T5 := hTk.symm
              have hr2 := D5.restart_up keep
              have hr3 : (D5.restart keep).now.length = 4 := by rw [(D5.restart_len keep hO5.d.ok).1, hn5]
              have HW5 := Lib.hid hwx
              clear hw5 hTk hwx
              go_wp2_with fail
              refine (restart_any b X5 D5 keep _ hO5.d HW5.out HK.out).mono ?_
              rintro e w5 ⟨rfl, hd5, hf5⟩
              have hO6 := hO5.moved hd5 hf5 (Fresh.refl _ _)
              have hT6 := hT5.frame hf5 hX5
              generalize D5.restart keep = D6 at *
              clear hd5 hf5 hO5 hT5 hU5 hn5 HW5
              go_wp2_with fail
              go_loop [18] (fun i => ∃ z : Nat, z ≤ 4 ∧ i = .int .i64 (z : Int)) (fun i => 4 - (intOf i).toNat)
              case atStart => exact ⟨0, by omega, rfl⟩
              case round =>
                obtain ⟨z, hz, rfl⟩ := hrel
                have z0 : (0 : Int) ≤ (z : Int) := by omega
                by_cases hlt : z < 4
                · have z1 : (z : Int) < 4 := by omega
                  have hc := hT6.cell z (by rw [← hr1, hr3]; exact hlt)
                  rw [← hr1] at hc
                  have hrd := hr2.read (n := z) (by rw [hr3]; exact hlt)
                  have HRD := Lib.hid hrd
                  have HR1 := Lib.hid hr1
                  clear hrd hr1
                  go_wp2_with fail
                  refine (read_any b X5 D6 z _ hO6.d).mono ?_
                  rintro e w6 ⟨rfl, rfl⟩
                  rw [HRD.out]
                  unfold readV
                  simp only
                  rw [errV_zero]
                  clear HRD
                  generalize D6.now.getD z ByteArray.empty = s at *
                  have hrs : (s.toList == s.toList) = true := by simp
                  go_wp2_with fail
                  go_round
                  case rel => exact ⟨z + 1, by omega, by go_num⟩
                  case measure => simp [intOf]; omega
                · go_wp2_with fail
                  go_ret
                  exact Ret.of rfl hO6.below

end Go.Proofs.Ytkapmpngglibjaa
