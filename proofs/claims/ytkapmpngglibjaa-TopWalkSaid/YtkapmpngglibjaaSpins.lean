/- An error held against its number; the closed fact of the disk's law. No condition. -/
import Derived.Test.YtkapmpngglibjaaRefB
import Derived.Test.YtkapmpngglibjaaArgs
namespace Go.Proofs.Ytkapmpngglibjaa
open Go Go.RowKit

theorem run_assert_errno (v : Value) (w : World) : (Instr.typeAssert (.iface 101 v) 27 101 true).run Try.prog w = .ok (.tuple #[v, .bool true]) w := by
  simp [Instr.typeAssert, run_underlying Try.underlying101]

set_option maxHeartbeats 400000 in
theorem same_any (m : Nat) (f : Int) (w : World) :
    Calls Try.prog 15 #[errV m, .int .i64 f] w (Ret (.bool (decide ((m : Int) = f))) fun w' => w = w') := by
  by_cases hm : m = 0
  · subst hm
    by_cases hf : f = 0
    · subst hf
      simp only [errV, if_true]
      go_enter Try.func15, Try.ntmps15
      go_wp2
      go_ret
      exact Ret.of rfl rfl
    · have hf' : (f == 0) = false := by simpa using hf
      have HF := Lib.hid hf
      clear hf
      simp only [errV, if_true]
      go_enter Try.func15, Try.ntmps15
      go_wp2
      go_ret
      refine Ret.of ?_ rfl
      have : ¬ ((0 : Nat) : Int) = f := fun e => HF.out (by omega)
      rw [decide_eq_false this]
      rfl
  · have e : errV m = .iface 101 (.int .i64 (m : Int)) := by simp [errV, hm]
    rw [e]
    clear e
    have hm' : (0 : Int) < (m : Int) := by omega
    have hta := fun w => run_assert_errno (.int .i64 (m : Int)) w
    have HM := Lib.hid hm
    clear hm
    by_cases h0 : 0 < f
    · by_cases hf : (m : Int) = f
      · have hb : ((m : Int) == f) = true := by simpa using hf
        have HF := Lib.hid hf
        clear hf
        go_enter Try.func15, Try.ntmps15
        go_wp2
        go_ret
        refine Ret.of ?_ rfl
        rw [decide_eq_true HF.out]
        rfl
      · have hb : ((m : Int) == f) = false := by simpa using hf
        have HF := Lib.hid hf
        clear hf
        go_enter Try.func15, Try.ntmps15
        go_wp2
        go_ret
        refine Ret.of ?_ rfl
        rw [decide_eq_false HF.out]
        rfl
    · go_enter Try.func15, Try.ntmps15
      go_wp2
      go_ret
      refine Ret.of ?_ rfl
      rw [decide_eq_false (by omega)]
      rfl

def xy : ByteArray := ⟨#[120, 121]⟩

theorem spins_model : ((DM.new 3).write 1 xy).1 = 0 ∧ ((DM.new 3).write 1 xy).2.flush.1 = 0 ∧ ((DM.new 3).write 1 xy).2.flush.2.wait = [] ∧ (((DM.new 3).write 1 xy).2.flush.2.restart 0).read 1 = (padTo 140 xy, 0) ∧ (((DM.new 3).write 1 xy).2.flush.2.restart 0).now.length = 3 := by
  refine ⟨rfl, rfl, rfl, rfl, rfl⟩

set_option maxHeartbeats 1000000 in
set_option maxRecDepth 100000 in
theorem spins_any (w : World) :
    Calls Try.prog 11 #[] w (Ret (.bool true) fun w' => Below w.heap.size w w') := by
  obtain ⟨m1, m2, m3, m4, m5⟩ := spins_model
  generalize hD0 : DM.new 3 = D0 at *
  have hw0 : D0.wait.length < 10000 := by rw [← hD0]; decide
  have H0 := Lib.hid hD0
  clear hD0
  generalize hE1 : (D0.write 1 xy).2 = D1 at *
  have HE1 := Lib.hid hE1
  clear hE1
  generalize hE2 : D1.flush.2 = D2 at *
  have HE2 := Lib.hid hE2
  clear hE2
  go_enter Try.func11, Try.ntmps11
  go_wp2_with fail
  refine (new_good 3 _ (by omega) (by omega)).mono ?_
  rintro e w1 ⟨v, rfl, b, X, rfl, hD, hB1, hX1⟩
  rw [H0.out] at hD
  clear H0
  go_wp2_with fail
  refine (write_any b X D0 1 xy _ hD hw0).mono ?_
  rintro e w2 ⟨rfl, Y, hD, hF2, hfr⟩
  rw [HE1.out] at hD
  rw [m1]
  have hB2 : Below w.heap.size w w2 := hB1.trans (hF2.below hB1.size hX1)
  have hY : ∀ k ∈ Y, w.heap.size ≤ k := fun k hk => (hfr k hk).elim (hX1 k) (fun h => Nat.le_trans hB1.size h)
  clear hF2 hfr hB1 hX1
  go_wp2_with fail
  refine (flush_any b Y D1 _ hD).mono ?_
  rintro e w3 ⟨rfl, hD, hF3⟩
  rw [HE2.out] at hD
  rw [m2]
  have hB3 : Below w.heap.size w w3 := hB2.trans (hF3.below hB2.size hY)
  clear hF3 hB2
  go_wp2_with fail
  refine (restart_any b Y D2 0 _ hD (by rw [m3]; decide) (by decide)).mono ?_
  rintro e w4 ⟨rfl, hD, hF4⟩
  have hB4 : Below w.heap.size w w4 := hB3.trans (hF4.below hB3.size hY)
  clear hF4 hB3
  generalize D2.restart 0 = D3 at *
  go_wp2_with fail
  refine (read_any b Y D3 1 _ hD).mono ?_
  rintro e w5 ⟨rfl, rfl⟩
  rw [m4]
  unfold readV
  have z1 : (padTo 140 xy).size = 140 := by rfl
  generalize hz : padTo 140 xy = z at *
  have hsl : z.extract 0 2 = xy := by rw [← hz]; rfl
  have hb : ((z.extract 0 2).toList == [120, 121]) = true := by rw [hsl]; decide +kernel
  clear hsl hz
  go_wp2_with fail
  refine (same_any 0 0 _).mono ?_
  rintro e w5 ⟨rfl, rfl⟩
  go_wp2_with fail
  refine (same_any 0 0 _).mono ?_
  rintro e w5 ⟨rfl, rfl⟩
  go_wp2_with fail
  refine (same_any 0 0 _).mono ?_
  rintro e w5 ⟨rfl, rfl⟩
  go_wp2_with fail
  refine (sectors_any 107 111 b Y D3 _ hD).mono ?_
  rintro e w5 ⟨rfl, rfl⟩
  rw [m5]
  go_wp2_with fail
  go_ret
  exact Ret.of rfl hB4
end Go.Proofs.Ytkapmpngglibjaa
