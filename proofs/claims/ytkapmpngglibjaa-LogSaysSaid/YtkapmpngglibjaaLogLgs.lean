/- The closed fact of the logs: it stands. Conditions: none. -/
import Derived.Test.YtkapmpngglibjaaLogZ
namespace Go.Proofs.Ytkapmpngglibjaa
open Go Go.RowKit

theorem kx_ok : firstFault [⟨⟨#[107]⟩, ⟨#[120]⟩, false⟩] = 0 := by
  unfold firstFault
  have : faultOf ⟨⟨#[107]⟩, ⟨#[120]⟩, false⟩ = 0 := by
    unfold faultOf
    rw [if_neg (by simp [ByteArray.toList_eq]), if_neg (by decide)]
  rw [if_pos this]
  rfl

set_option maxHeartbeats 4000000 in
set_option maxRecDepth 100000 in
theorem logs_any (w : World) : Calls Try.prog 50 #[] w (Ret (.bool true) fun w' => Below w.heap.size w w') := by
  go_enter Try.func50, Try.ntmps50
  go_wp2_with fail
  refine (new_good 8 _ (by omega) (by omega)).mono ?_
  rintro e w1 ⟨vd, rfl, db, X, rfl, hD, hB, hX⟩
  have hO : One w.heap.size w w1 db X (DM.new 8) := ⟨hD, hX, hB, Nat.le_refl _⟩
  have HG := Lib.hid (new_log 8 ⟨2, 6, 1, 0⟩ (by decide) rfl (by decide) (by decide))
  have HR := Lib.hid (show (DM.new 8).Ready from ⟨rfl, rfl⟩)
  have hl8 : (DM.new 8).now.length = 8 := by simp [DM.new]
  generalize DM.new 8 = D0 at *
  clear hD hB hX
  go_wp2_with fail
  have hop := open_any db X D0 2 6 1 w1 hO.d (by omega) (by omega) (by omega) HR.out.1 HG.out.sz (by omega)
  rw [show scan 1 0 (secs D0 2 6) [] [] 0 = ([], 0) from HG.out.scan] at hop
  refine hop.mono ?_
  clear hop
  rintro e w2 ⟨v2, rfl, ho⟩
  obtain ⟨b, vd, rfl, hb1, hLO, hds, hbl⟩ := LogOne.opened (L := ⟨2, 6, 1, 0⟩) hO ho
  obtain ⟨ao2, cap2, rfl, -⟩ := hds.form
  have HLO := Lib.hid hLO
  have HBA := Lib.hid (heap_alloc_new w2 (.cells #[.string ⟨#[107]⟩, .string ⟨#[120]⟩, .bool false] 64))
  have HLOB := Lib.hid (HLO.out.later ((Below.refl _ w2).alloc (Nat.le_refl _) (.cells #[.string ⟨#[107]⟩, .string ⟨#[120]⟩, .bool false] 64)))
  have hltA : ∀ k ∈ b :: X, k < w2.heap.size := fun k hk => by
    rcases List.mem_cons.1 hk with rfl | hk
    · exact HLO.out.lt
    · exact HLO.out.o.d.lt k hk
  have HV := Lib.hid (show ChgP (fun k => k ∉ b :: X) (w2.alloc (.cells #[.string ⟨#[107]⟩, .string ⟨#[120]⟩, .bool false] 64)) (.slice (some ⟨w2.heap.size, 0, none⟩) 1 1) [⟨⟨#[107]⟩, ⟨#[120]⟩, false⟩] from
    ⟨_, _, rfl, by unfold maxLen; decide, fun i c hc => by
      match i, hc with
      | 0, hc =>
        cases hc
        exact ⟨_, _, rfl, fun hm => by have := hltA _ hm; omega, by rw [cell_of HBA.out]; rfl, by rw [cell_of HBA.out]; rfl, by rw [cell_of HBA.out]; rfl⟩⟩)
  clear ho hds hO hbl hLO hltA HLO HBA
  go_wp2_with fail
  refine (app_ok HLOB.out HG.out HR.out [⟨⟨#[107]⟩, ⟨#[120]⟩, false⟩] (by decide) (by decide) (by simp) (by decide) kx_ok _ HV.out).mono ?_
  rintro e w3 ⟨rfl, Y, D1, hR1, hG1, hLO3, -, -⟩
  have HLO3 := Lib.hid hLO3
  clear HV HLOB HG HR hR1 hG1 hLO3
  go_wp2_with fail
  refine (same_any 0 0 w3).mono ?_
  rintro e w4 ⟨rfl, rfl⟩
  go_wp2_with fail
  have hrm := room_any b db _ w3 HLO3.out.l (show 6 ≤ 1000 by decide) (show 0 + 1 + 1 ≤ 1000 by decide)
  refine hrm.mono ?_
  clear hrm
  rintro e w5 ⟨rfl, nq, rfl⟩
  have HLO5 := Lib.hid (HLO3.out.later (below_drewN (Below.refl _ w3) nq))
  generalize w3.drewN nq = w5 at *
  clear HLO3
  go_wp2_with fail
  have hnx := next_any b db _ w5 HLO5.out.l (show 6 ≤ 1000 by decide) (show 1 < 1073741824 by decide)
  refine hnx.mono ?_
  clear hnx
  rintro e w6 ⟨rfl, nq2, rfl⟩
  have HLO6 := Lib.hid (HLO5.out.later (below_drewN (Below.refl _ w5) nq2))
  go_wp2_with fail
  go_ret
  exact Ret.of rfl HLO6.out.o.below

end Go.Proofs.Ytkapmpngglibjaa
