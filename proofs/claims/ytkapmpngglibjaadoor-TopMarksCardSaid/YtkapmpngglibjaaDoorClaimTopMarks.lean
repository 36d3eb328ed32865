/- The law TopMarks: its row and its tied card. Conditions: none. -/
import Derived.Test.YtkapmpngglibjaaDoorDS
import Derived.Test.YtkapmpngglibjaaDoorOpen
import Derived.Test.YtkapmpngglibjaaDoorCards
import Derived.Test.YtkapmpngglibjaaDoorTie
import Derived.Deep.DeepHandedRow
import Derived.Deep.DeepWitnessRowRef
import Derived.ChangeMaps5
namespace Go.Proofs.YtkapmpngglibjaaDoor
open Go Go.ChangeShapes Go.WideShapes Go.ChangeAt Go.RowKit
open Go.ChangeMaps (open_string shut_string)

set_option maxRecDepth 100000 in
theorem topMarks_contract {H : Type} (enc : TypeId × Value → H) (W : World) (base : Nat) (args : Array Value) (ds gs : List (DataW H)) (before : List MemPlace)
    (hval : ∀ (j : Nat) t v, Tryd.f4.params[j]? = some t → args[j]? = some v → Value.okWide Tryd.prog W .any base t v)
    (hL : laidMet Tryd.prog Rows.topMarksRow.laid W)
    (hW : DataW.Whole enc Tryd.prog Tryd.f4.params.toList Rows.topMarksSpec.vars false W args.toList ds gs before) :
    Calls Tryd.prog 4 args W fun e W' => ∃ v, e = .returned v ∧ Rows.topMarksSpec.post enc Tryd.prog Tryd.f4 false true false false W args v W' := by
  have hW' := hW
  obtain ⟨p, q, hA0, hV, rfl, hfz, hnd⟩ := hW
  have hA : DataW.TrodAll enc Tryd.prog W 0 (fun _ => true) true Tryd.f4.params.toList args.toList ds p := hA0
  rw [Tryd.params4] at hA hval
  obtain ⟨v0, vs0, d0, ds0, p0, q0, hargs, rfl, rfl, h0, r0⟩ := trodAll_cons hA
  obtain ⟨v1, vs1, d1, ds1, p1, q1, rfl, rfl, rfl, h1, r1⟩ := trodAll_cons r0
  obtain ⟨v2, vs2, d2, ds2, p2, q2, rfl, rfl, rfl, h2, r2⟩ := trodAll_cons r1
  obtain ⟨v3, vs3, d3, ds3, p3, q3, rfl, rfl, rfl, h3, r3⟩ := trodAll_cons r2
  obtain ⟨rfl, rfl, rfl⟩ := trodAll_nil r3
  obtain rfl : args = #[v0, v1, v2, v3] := by cases args; simp_all
  obtain ⟨rfl, rfl⟩ := trodVars_none hV
  obtain ⟨a0, rfl, rfl, rfl, b0⟩ := open_string Tryd.underlying9 (hval 0 9 v0 rfl rfl) h0
  obtain ⟨a1, rfl, rfl, rfl, b1⟩ := open_string Tryd.underlying9 (hval 1 9 v1 rfl rfl) h1
  obtain ⟨a2, rfl, rfl, rfl, w2⟩ := open_int Tryd.underlying21 (hval 2 21 v2 rfl rfl) h2
  obtain ⟨a3, rfl, rfl, rfl, w3⟩ := open_int Tryd.underlying21 (hval 3 21 v3 rfl rfl) h3
  clear hA0 hA
  have hT := tabs_of (w := W) (Lib.laidMet.reads hL (.tail _ (.tail _ (.tail _ (.head _))))) (Lib.laidMet.reads hL (.head _))
  have hM := marksAt_of (w := W) (Lib.laidMet.reads hL (.tail _ (.head _)))
  have hWh := wholeAt_of (w := W) (Lib.laidMet.reads hL (.tail _ (.tail _ (.head _))))
  refine (topMarks_any W.heap.size a0 a1 a2 a3 W hM hWh (Nat.le_refl _) (valid_any W hT)).mono fun e W' he => ?_
  obtain ⟨rfl, hb⟩ := he
  exact ⟨_, rfl, law_post laid hW' hb (by kernel_rfl) rfl (tb := 4) (by kernel_rfl) Tryd.underlying4 rfl (by simp [Rows.topMarksSpec]) rfl⟩

/-- A world for the witness: the settled one, the four tables as their initialisers lay them. -/
noncomputable def marksTab (cs : Array Value) : Obj → Obj
  | .cells _ t frozen => .cells cs t frozen
  | o => o
noncomputable def marksWorld (os : Os) : World :=
  { World.holding Tryd.prog os ⟨#[], #[], []⟩ with heap := (((((((World.holding Tryd.prog os ⟨#[], #[], []⟩).heap.modify 0 (marksTab #[.slice (some ⟨12, 0, none⟩) 4 4])).modify 3 (marksTab #[.slice (some ⟨13, 0, none⟩) 4 4])).modify 1 (marksTab (Lib.firstTab.map fun z => Value.int .u8 z).toArray)).modify 2 (marksTab ((List.range 16).flatMap fun i => [Value.int .u8 (Lib.accLo i), Value.int .u8 (Lib.accHi i)]).toArray)).push (.cells (marksL.flatMap fun m => [Value.int .i32 m.1, Value.int .i64 m.2]).toArray 39)).push (.cells (wholeL.flatMap fun m => [Value.string ⟨m.1.toArray⟩, Value.string ⟨m.2.toArray⟩]).toArray 53)) }
noncomputable def marksStart : Array Value := #[.string ⟨#[]⟩, .string ⟨#[]⟩, .int .i32 0, .int .i32 0]
theorem marks_met (os : Os) : laidMet Tryd.prog Rows.topMarksRow.laid ((marksWorld os).forCall (fun _ _ => 0) ⟨#[], marksStart, []⟩).memory :=
  laidMet_of_run' 8 (by kernel_rfl) (by kernel_rfl)
theorem marks_reads (os : Os) {H : Type} (enc : TypeId × Value → H) : ∃ places, DataW.whole enc Tryd.prog ((marksWorld os).forCall (fun _ _ => 0) ⟨#[], marksStart, []⟩).memory Tryd.f4.params.toList Rows.topMarksSpec.vars false marksStart.toList 8 = some ([.lit (.string []), .lit (.string []), .lit (.int .i32 0), .lit (.int .i32 0)], [], places) :=
  ⟨[], by kernel_rfl⟩

set_option maxRecDepth 100000 in
theorem topMarks_lifted (os : Os) (started : os.Started) (H : Type) (enc : TypeId × Value → H) (F : Stop.Interp) :
    ReturnsInHanded {} Tryd.checked os 4 .any ((OpenSpec.ofChange Rows.topMarksSpec).preRow enc Tryd.prog Tryd.f4 Rows.topMarksRow.domain false Rows.topMarksRow.laid) (((OpenSpec.ofChange Rows.topMarksSpec).at F).post enc Tryd.prog Tryd.f4 false true false false) := by
  obtain ⟨places, hx⟩ := marks_reads os enc
  refine returnsInHanded_of_row (C := Tryd.checked) (s := OpenSpec.ofChange Rows.topMarksSpec) own started (by kernel_rfl) Tryd.func4
    (witness_row_atRef (enc := enc) (C := Tryd.checked) false (marksWorld os) marksStart rfl (by kernel_rfl) (by kernel_rfl) (by kernel_rfl)
      (OpenSpec.preRow_of_cond 8 hx (by kernel_rfl) (fun k hk => by cases hk) (by kernel_rfl) (marks_met os))) ?_
  intro W base args ds gs before hval hW _ _ _ hL _ _
  exact topMarks_contract enc W base args ds gs before hval hL hW

theorem topMarks_said : Rows.TopMarksSaid :=
  OpenClaim.holds_of_cond 4 Tryd.f4 rfl rfl rfl rfl rfl rfl rfl ⟨rfl, rfl, rfl, rfl, rfl⟩ rfl rfl rfl rfl rfl (by kernel_rfl) Tryd.func4 (by kernel_rfl)
    (of_decide_eq_true (by kernel_rfl)) (by unfold Func.isWrapper; first | (rw [if_pos (by decide +kernel)]; kernel_rfl) | (rw [if_neg (by decide +kernel)]; exact ⟨rfl, rfl⟩))
    (fun os started H enc _ F => by rw [OpenClaim.pre_eq_preRow]; exact topMarks_lifted os started H enc F)

/-- No parameter wants a stand-in; the program's own looks are off. -/
theorem topMarks_plain (f : FuncId) (fn : Func) (hf : Tryd.pinned.checked.prog.funcNamed "jobcase/jobcasetop.TopMarks" = some f) (hfn : Tryd.pinned.checked.prog.funcs[f]? = some fn) :
    true = Tryd.pinned.checked.prog.looks [] ∧ ∀ (j : Nat) t, fn.params[j]? = some t → Tryd.pinned.checked.prog.wantsStandIn t = false := by
  obtain rfl : f = 4 := Option.some.inj ((show Tryd.prog.funcNamed "jobcase/jobcasetop.TopMarks" = some 4 by kernel_rfl).symm.trans hf) |>.symm
  obtain rfl : fn = Tryd.f4 := (Option.some.inj (Tryd.func4.symm.trans hfn)).symm
  refine ⟨by kernel_rfl, fun j t ht => ?_⟩
  rw [Tryd.params4] at ht
  have k9 : Tryd.pinned.checked.prog.wantsStandIn 9 = false := by kernel_rfl
  have k21 : Tryd.pinned.checked.prog.wantsStandIn 21 = false := by kernel_rfl
  match j, ht with
  | 0, ht => obtain rfl : 9 = t := Option.some.inj ht; exact k9
  | 1, ht => obtain rfl : 9 = t := Option.some.inj ht; exact k9
  | 2, ht => obtain rfl : 21 = t := Option.some.inj ht; exact k21
  | 3, ht => obtain rfl : 21 = t := Option.some.inj ht; exact k21
  | j + 4, ht => simp at ht

theorem topMarks_card : Rows.TopMarksCardSaid :=
  Claim7.holds_tied_plain_at .later [] _ _ _ _ topMarks_said (fun _ h => by cases h) (by kernel_rfl) (fun _ h => by cases h) topMarks_row_tie rfl ⟨rfl, rfl⟩ (by kernel_rfl) rfl topMarks_plain (by kernel_rfl)

end Go.Proofs.YtkapmpngglibjaaDoor
