/-
  No cell of these rows narrows 'for every input' (looked for: loops, veiled, ifaces, maps, wideKeys, modest, calm, conditions, laid).
  DERIVED. THE GIVEN ROWS OF THIS SEAT. 8 by the template 'for every input the law returns true; each argument reads behind the call as it read before'; 0 by the template 'total and deterministic' (their statements: YtkapmpngglibjaaTotals.lean).
  GIVEN WITH THE SEED: the statements are not yours to turn. If you find one false, say at which input.
  Laid BY PROGRAM, IN A SANDBOX (cutbox-rows.mjs): the forced cells as the released guide's own fill.sh prints them over the translation d670e2bd710ca382… (all of the seat's roots in one cut). By AI agents, Wed Nov 11 2026. No macro, syntax, notation, axiom, sorry.
-/
import Derived.Test.YtkapmpngglibjaaChecked
import GoSem.Claim
import GoSem.ClaimJoined
import GoSem.ClaimMapViews
import Derived.JoinedTies
import Derived.KernelRfl
namespace Go.Proofs.Ytkapmpngglibjaa
/- THE CELL 'sum', in the pinned program and in every row, IS THE sha256 OF THE DUMP (.gsa) THAT YtkapmpngglibjaaProg.lean LOADS. Nothing in Lean hashes anything: it is a label: what it is worth is what the hold of that sum in a sandbox is worth. -/
noncomputable def Try.pinned : Pinned := { name := "ytkapmpngglibjaa", sum := "d670e2bd710ca3823bbcb070c962e75094d9fdfc6edca43ef4f664ff9631864e", checked := Try.checked }
namespace Rows
def none {H : Type} : Left H := { results := [], args := [] }

/-- 'jobcaselaw.DiskSays': WHATEVER THE INPUT: true; the input reads as it did. -/
def diskSaysSpec : ChangeSpec := { name := "diskSays", fn := fun _ => fun
  | [d1, d2] => { results := [.lit (.bool true)], args := [d1, d2] }
  | _ => none }
def diskSaysRow : OpenClaim := { program := "ytkapmpngglibjaa", sum := "d670e2bd710ca3823bbcb070c962e75094d9fdfc6edca43ef4f664ff9631864e", func := "jobcase/jobcaselaw.DiskSays", spec := "diskSays", apart := false }
def DiskSaysSaid : Prop := diskSaysRow.holds Try.pinned (OpenSpec.ofChange diskSaysSpec)

/-- ITS FALSE NEIGHBOUR: 'it returns false'. Refute it at one input. -/
def diskSaysWrong : ChangeSpec := { name := "diskSays", fn := fun _ => fun
  | [d1, d2] => { results := [.lit (.bool false)], args := [d1, d2] }
  | _ => none }
def DiskSaysWrongFalsely : Prop := diskSaysRow.holds Try.pinned (OpenSpec.ofChange diskSaysWrong)

/-- 'jobcasetop.TopDisk': WHATEVER THE INPUT: true; the input reads as it did. -/
def topDiskSpec : ChangeSpec := { name := "topDisk", fn := fun _ => fun
  | [d1, d2, d3] => { results := [.lit (.bool true)], args := [d1, d2, d3] }
  | _ => none }
def topDiskRow : OpenClaim := { program := "ytkapmpngglibjaa", sum := "d670e2bd710ca3823bbcb070c962e75094d9fdfc6edca43ef4f664ff9631864e", func := "jobcase/jobcasetop.TopDisk", spec := "topDisk", apart := false }
def TopDiskSaid : Prop := topDiskRow.holds Try.pinned (OpenSpec.ofChange topDiskSpec)

/-- ITS FALSE NEIGHBOUR: 'it returns false'. Refute it at one input. -/
def topDiskWrong : ChangeSpec := { name := "topDisk", fn := fun _ => fun
  | [d1, d2, d3] => { results := [.lit (.bool false)], args := [d1, d2, d3] }
  | _ => none }
def TopDiskWrongFalsely : Prop := topDiskRow.holds Try.pinned (OpenSpec.ofChange topDiskWrong)

/-- 'jobcasetop.TopWalk': WHATEVER THE INPUT: true; the input reads as it did. -/
def topWalkSpec : ChangeSpec := { name := "topWalk", fn := fun _ => fun
  | [d1, d2] => { results := [.lit (.bool true)], args := [d1, d2] }
  | _ => none }
def topWalkRow : OpenClaim := { program := "ytkapmpngglibjaa", sum := "d670e2bd710ca3823bbcb070c962e75094d9fdfc6edca43ef4f664ff9631864e", func := "jobcase/jobcasetop.TopWalk", spec := "topWalk", inPlace := ["slices.overlaps[jobcase/btree.item]", "slices.overlaps[*jobcase/btree.node]", "internal/bytealg.abigen_runtime_cmpstring"], unfollowed := true, recurses := true, apart := false }
def TopWalkSaid : Prop := topWalkRow.holds Try.pinned (OpenSpec.ofChange topWalkSpec)

/-- ITS FALSE NEIGHBOUR: 'it returns false'. Refute it at one input. -/
def topWalkWrong : ChangeSpec := { name := "topWalk", fn := fun _ => fun
  | [d1, d2] => { results := [.lit (.bool false)], args := [d1, d2] }
  | _ => none }
def TopWalkWrongFalsely : Prop := topWalkRow.holds Try.pinned (OpenSpec.ofChange topWalkWrong)

/-- 'jobcaselaw.RowSays': WHATEVER THE INPUT: true; the input reads as it did. -/
def rowSaysSpec : ChangeSpec := { name := "rowSays", fn := fun _ => fun
  | [d1, d2, d3, d4] => { results := [.lit (.bool true)], args := [d1, d2, d3, d4] }
  | _ => none }
def rowSaysRow : OpenClaim := { program := "ytkapmpngglibjaa", sum := "d670e2bd710ca3823bbcb070c962e75094d9fdfc6edca43ef4f664ff9631864e", func := "jobcase/jobcaselaw.RowSays", spec := "rowSays", inPlace := ["internal/bytealg.abigen_runtime_cmpstring", "slices.overlaps[jobcase/api.Change]"], unfollowed := true, recurses := true, apart := false }
def RowSaysSaid : Prop := rowSaysRow.holds Try.pinned (OpenSpec.ofChange rowSaysSpec)

/-- ITS FALSE NEIGHBOUR: 'it returns false'. Refute it at one input. -/
def rowSaysWrong : ChangeSpec := { name := "rowSays", fn := fun _ => fun
  | [d1, d2, d3, d4] => { results := [.lit (.bool false)], args := [d1, d2, d3, d4] }
  | _ => none }
def RowSaysWrongFalsely : Prop := rowSaysRow.holds Try.pinned (OpenSpec.ofChange rowSaysWrong)

/-- 'jobcasetop.TopLog': WHATEVER THE INPUT: true; the input reads as it did. -/
def topLogSpec : ChangeSpec := { name := "topLog", fn := fun _ => fun
  | [d1, d2, d3] => { results := [.lit (.bool true)], args := [d1, d2, d3] }
  | _ => none }
def topLogRow : OpenClaim := { program := "ytkapmpngglibjaa", sum := "d670e2bd710ca3823bbcb070c962e75094d9fdfc6edca43ef4f664ff9631864e", func := "jobcase/jobcasetop.TopLog", spec := "topLog", unfollowed := true, recurses := true, apart := false }
def TopLogSaid : Prop := topLogRow.holds Try.pinned (OpenSpec.ofChange topLogSpec)

/-- ITS FALSE NEIGHBOUR: 'it returns false'. Refute it at one input. -/
def topLogWrong : ChangeSpec := { name := "topLog", fn := fun _ => fun
  | [d1, d2, d3] => { results := [.lit (.bool false)], args := [d1, d2, d3] }
  | _ => none }
def TopLogWrongFalsely : Prop := topLogRow.holds Try.pinned (OpenSpec.ofChange topLogWrong)

/-- 'jobcaselaw.LogSays': WHATEVER THE INPUT: true; the input reads as it did. -/
def logSaysSpec : ChangeSpec := { name := "logSays", fn := fun _ => fun
  | [d1, d2, d3, d4, d5] => { results := [.lit (.bool true)], args := [d1, d2, d3, d4, d5] }
  | _ => none }
def logSaysRow : OpenClaim := { program := "ytkapmpngglibjaa", sum := "d670e2bd710ca3823bbcb070c962e75094d9fdfc6edca43ef4f664ff9631864e", func := "jobcase/jobcaselaw.LogSays", spec := "logSays", unfollowed := true, recurses := true, apart := false }
def LogSaysSaid : Prop := logSaysRow.holds Try.pinned (OpenSpec.ofChange logSaysSpec)

/-- ITS FALSE NEIGHBOUR: 'it returns false'. Refute it at one input. -/
def logSaysWrong : ChangeSpec := { name := "logSays", fn := fun _ => fun
  | [d1, d2, d3, d4, d5] => { results := [.lit (.bool false)], args := [d1, d2, d3, d4, d5] }
  | _ => none }
def LogSaysWrongFalsely : Prop := logSaysRow.holds Try.pinned (OpenSpec.ofChange logSaysWrong)

/-- 'jobcaselaw.StoreSays': WHATEVER THE INPUT: true; the input reads as it did. -/
def storeSaysSpec : ChangeSpec := { name := "storeSays", fn := fun _ => fun
  | [d1, d2] => { results := [.lit (.bool true)], args := [d1, d2] }
  | _ => none }
def storeSaysRow : OpenClaim := { program := "ytkapmpngglibjaa", sum := "d670e2bd710ca3823bbcb070c962e75094d9fdfc6edca43ef4f664ff9631864e", func := "jobcase/jobcaselaw.StoreSays", spec := "storeSays", inPlace := ["internal/bytealg.abigen_runtime_cmpstring", "slices.overlaps[jobcase/api.Change]", "internal/abi.NoEscape"], unfollowed := true, recurses := true, apart := false }
def StoreSaysSaid : Prop := storeSaysRow.holds Try.pinned (OpenSpec.ofChange storeSaysSpec)

/-- ITS FALSE NEIGHBOUR: 'it returns false'. Refute it at one input. -/
def storeSaysWrong : ChangeSpec := { name := "storeSays", fn := fun _ => fun
  | [d1, d2] => { results := [.lit (.bool false)], args := [d1, d2] }
  | _ => none }
def StoreSaysWrongFalsely : Prop := storeSaysRow.holds Try.pinned (OpenSpec.ofChange storeSaysWrong)

/-- 'jobcasetop.TopCrash': WHATEVER THE INPUT: true; the input reads as it did. -/
def topCrashSpec : ChangeSpec := { name := "topCrash", fn := fun _ => fun
  | [d1, d2, d3] => { results := [.lit (.bool true)], args := [d1, d2, d3] }
  | _ => none }
def topCrashRow : OpenClaim := { program := "ytkapmpngglibjaa", sum := "d670e2bd710ca3823bbcb070c962e75094d9fdfc6edca43ef4f664ff9631864e", func := "jobcase/jobcasetop.TopCrash", spec := "topCrash", inPlace := ["internal/bytealg.abigen_runtime_cmpstring", "slices.overlaps[jobcase/api.Change]", "internal/abi.NoEscape"], unfollowed := true, recurses := true, apart := false }
def TopCrashSaid : Prop := topCrashRow.holds Try.pinned (OpenSpec.ofChange topCrashSpec)

/-- ITS FALSE NEIGHBOUR: 'it returns false'. Refute it at one input. -/
def topCrashWrong : ChangeSpec := { name := "topCrash", fn := fun _ => fun
  | [d1, d2, d3] => { results := [.lit (.bool false)], args := [d1, d2, d3] }
  | _ => none }
def TopCrashWrongFalsely : Prop := topCrashRow.holds Try.pinned (OpenSpec.ofChange topCrashWrong)

/- THE SECOND FORM. 'bulk': how many values and letters a reading holds, each counted each time it is reached (what is shared counts as often as it is met; a slice's spare places count too). A statement '..UptoSaid' is the law's where the arguments, and the package variables that the reading takes, are together of bulk at most 1048576: NARROWER than '..Said'. Prove '..Said' where nothing that the law and all that it calls make is longer than what came in: it says more and counts as full. Else prove '..UptoSaid'. A law counts once. -/
mutual
def uptoBulk {H : Type} : DataW H → Nat
  | .lit (.string bytes) => bytes.length + 1
  | .lit _ => 1
  | .nil => 1
  | .ptr d => uptoBulk d + 1
  | .slice elems spare => uptoBulkAll elems + uptoBulkAll spare + 1
  | .agg parts => uptoBulkAll parts + 1
  | .iface _ d => uptoBulk d + 1
  | .map entries => uptoBulkEntries entries + 1
  | .held _ => 1
def uptoBulkAll {H : Type} : List (DataW H) → Nat
  | [] => 0
  | d :: r => uptoBulk d + uptoBulkAll r
def uptoBulkEntries {H : Type} : List (Lit × DataW H) → Nat
  | [] => 0
  | x :: r => uptoBulkEntry x + uptoBulkEntries r
def uptoBulkEntry {H : Type} : Lit × DataW H → Nat
  | (.string bytes, d) => bytes.length + uptoBulk d + 1
  | (_, d) => uptoBulk d + 1
 end
def uptoSmall : (H : Type) → List (DataW H) → Bool := fun _ ds => decide (uptoBulkAll ds ≤ 1048576)
def OpenSpec.upto (s : _root_.Go.ChangeSpec) : _root_.Go.OpenSpec := { _root_.Go.OpenSpec.ofChange s with cond := some uptoSmall }

/-- 'jobcaselaw.DiskSays', WHERE WHAT IT READS IS OF BULK AT MOST 1048576: true; the input reads as it did. -/
def diskSaysUptoRow : OpenClaim := { program := "ytkapmpngglibjaa", sum := "d670e2bd710ca3823bbcb070c962e75094d9fdfc6edca43ef4f664ff9631864e", func := "jobcase/jobcaselaw.DiskSays", spec := "diskSays", apart := false, narrowed := true }
def DiskSaysUptoSaid : Prop := diskSaysUptoRow.holds Try.pinned (OpenSpec.upto diskSaysSpec)

/-- 'jobcasetop.TopDisk', WHERE WHAT IT READS IS OF BULK AT MOST 1048576: true; the input reads as it did. -/
def topDiskUptoRow : OpenClaim := { program := "ytkapmpngglibjaa", sum := "d670e2bd710ca3823bbcb070c962e75094d9fdfc6edca43ef4f664ff9631864e", func := "jobcase/jobcasetop.TopDisk", spec := "topDisk", apart := false, narrowed := true }
def TopDiskUptoSaid : Prop := topDiskUptoRow.holds Try.pinned (OpenSpec.upto topDiskSpec)

/-- 'jobcasetop.TopWalk', WHERE WHAT IT READS IS OF BULK AT MOST 1048576: true; the input reads as it did. -/
def topWalkUptoRow : OpenClaim := { program := "ytkapmpngglibjaa", sum := "d670e2bd710ca3823bbcb070c962e75094d9fdfc6edca43ef4f664ff9631864e", func := "jobcase/jobcasetop.TopWalk", spec := "topWalk", inPlace := ["slices.overlaps[jobcase/btree.item]", "slices.overlaps[*jobcase/btree.node]", "internal/bytealg.abigen_runtime_cmpstring"], unfollowed := true, recurses := true, apart := false, narrowed := true }
def TopWalkUptoSaid : Prop := topWalkUptoRow.holds Try.pinned (OpenSpec.upto topWalkSpec)

/-- 'jobcaselaw.RowSays', WHERE WHAT IT READS IS OF BULK AT MOST 1048576: true; the input reads as it did. -/
def rowSaysUptoRow : OpenClaim := { program := "ytkapmpngglibjaa", sum := "d670e2bd710ca3823bbcb070c962e75094d9fdfc6edca43ef4f664ff9631864e", func := "jobcase/jobcaselaw.RowSays", spec := "rowSays", inPlace := ["internal/bytealg.abigen_runtime_cmpstring", "slices.overlaps[jobcase/api.Change]"], unfollowed := true, recurses := true, apart := false, narrowed := true }
def RowSaysUptoSaid : Prop := rowSaysUptoRow.holds Try.pinned (OpenSpec.upto rowSaysSpec)

/-- 'jobcasetop.TopLog', WHERE WHAT IT READS IS OF BULK AT MOST 1048576: true; the input reads as it did. -/
def topLogUptoRow : OpenClaim := { program := "ytkapmpngglibjaa", sum := "d670e2bd710ca3823bbcb070c962e75094d9fdfc6edca43ef4f664ff9631864e", func := "jobcase/jobcasetop.TopLog", spec := "topLog", unfollowed := true, recurses := true, apart := false, narrowed := true }
def TopLogUptoSaid : Prop := topLogUptoRow.holds Try.pinned (OpenSpec.upto topLogSpec)

/-- 'jobcaselaw.LogSays', WHERE WHAT IT READS IS OF BULK AT MOST 1048576: true; the input reads as it did. -/
def logSaysUptoRow : OpenClaim := { program := "ytkapmpngglibjaa", sum := "d670e2bd710ca3823bbcb070c962e75094d9fdfc6edca43ef4f664ff9631864e", func := "jobcase/jobcaselaw.LogSays", spec := "logSays", unfollowed := true, recurses := true, apart := false, narrowed := true }
def LogSaysUptoSaid : Prop := logSaysUptoRow.holds Try.pinned (OpenSpec.upto logSaysSpec)

/-- 'jobcaselaw.StoreSays', WHERE WHAT IT READS IS OF BULK AT MOST 1048576: true; the input reads as it did. -/
def storeSaysUptoRow : OpenClaim := { program := "ytkapmpngglibjaa", sum := "d670e2bd710ca3823bbcb070c962e75094d9fdfc6edca43ef4f664ff9631864e", func := "jobcase/jobcaselaw.StoreSays", spec := "storeSays", inPlace := ["internal/bytealg.abigen_runtime_cmpstring", "slices.overlaps[jobcase/api.Change]", "internal/abi.NoEscape"], unfollowed := true, recurses := true, apart := false, narrowed := true }
def StoreSaysUptoSaid : Prop := storeSaysUptoRow.holds Try.pinned (OpenSpec.upto storeSaysSpec)

/-- 'jobcasetop.TopCrash', WHERE WHAT IT READS IS OF BULK AT MOST 1048576: true; the input reads as it did. -/
def topCrashUptoRow : OpenClaim := { program := "ytkapmpngglibjaa", sum := "d670e2bd710ca3823bbcb070c962e75094d9fdfc6edca43ef4f664ff9631864e", func := "jobcase/jobcasetop.TopCrash", spec := "topCrash", inPlace := ["internal/bytealg.abigen_runtime_cmpstring", "slices.overlaps[jobcase/api.Change]", "internal/abi.NoEscape"], unfollowed := true, recurses := true, apart := false, narrowed := true }
def TopCrashUptoSaid : Prop := topCrashUptoRow.holds Try.pinned (OpenSpec.upto topCrashSpec)

end Rows
end Go.Proofs.Ytkapmpngglibjaa
