/- utf8.ValidString by its contract, laid at this program; what it asks of its two tables, read from the laid variables. Conditions: each contract's own premises. -/
import Derived.Test.YtkapmpngglibjaaDoorDR
import Derived.Shelf.Unicode.ValidAny
import Derived.Ground.NamesProg
namespace Go.Proofs.YtkapmpngglibjaaDoor
open Go Go.RowKit Go.Lib Go.Shelf

def vLays_ren : Go.Shelf.Ren := ⟨fun | 196 => 10 | 259 => 14 | n => n, fun | 9 => 9 | 4 => 4 | 3 => 3 | 5 => 5 | 12 => 12 | 119 => 41 | 0 => 0 | 46 => 45 | 139 => 44 | 138 => 43 | 53 => 51 | n => n, fun | 3 => 1 | 4 => 2 | n => n⟩
theorem vLays : Go.Proofs.Lays.n196 Tryd.prog vLays_ren := {
  mixed := by kernel_rfl
  f196 := Tryd.func10.trans (congrArg some (by kernel_rfl))
  f259 := Tryd.func14.trans (congrArg some (by kernel_rfl))
  t0 := Tryd.underlying0
  a0 := Tryd.isAgg0
  z0 := Tryd.sizeOf0
  v0 := Tryd.zeroValue0
  t3 := Tryd.underlying3
  a3 := Tryd.isAgg3
  z3 := Tryd.sizeOf3
  v3 := Tryd.zeroValue3
  t4 := Tryd.underlying4
  a4 := Tryd.isAgg4
  z4 := Tryd.sizeOf4
  v4 := Tryd.zeroValue4
  t5 := Tryd.underlying5
  a5 := Tryd.isAgg5
  z5 := Tryd.sizeOf5
  v5 := Tryd.zeroValue5
  t9 := Tryd.underlying9
  a9 := Tryd.isAgg9
  z9 := Tryd.sizeOf9
  v9 := Tryd.zeroValue9
  t12 := Tryd.underlying12
  a12 := Tryd.isAgg12
  z12 := Tryd.sizeOf12
  v12 := Tryd.zeroValue12
  t46 := Tryd.underlying45
  a46 := Tryd.isAgg45
  z46 := Tryd.sizeOf45
  v46 := Tryd.zeroValue45
  t53 := Tryd.underlying51
  a53 := Tryd.isAgg51
  z53 := Tryd.sizeOf51
  v53 := Tryd.zeroValue51
  t119 := Tryd.underlying41
  a119 := Tryd.isAgg41
  z119 := Tryd.sizeOf41
  t138 := Tryd.underlying43
  a138 := Tryd.isAgg43
  z138 := Tryd.sizeOf43
  v138 := Tryd.zeroValue43
  t139 := Tryd.underlying44
  a139 := Tryd.isAgg44
  z139 := Tryd.sizeOf44
  v139 := Tryd.zeroValue44
  g3 := by kernel_rfl
  g4 := by kernel_rfl }

theorem first_same : Rows.laid_unicode_utf8_first = Lib.firstData := by kernel_rfl
theorem accept_same : (Rows.laid_unicode_utf8_acceptRanges : DataW Unit) = Lib.acceptData := by kernel_rfl

theorem tabs_of {w : World} (h1 : VarReads Tryd.prog w "unicode/utf8.first" Rows.laid_unicode_utf8_first) (h2 : VarReads Tryd.prog w "unicode/utf8.acceptRanges" Rows.laid_unicode_utf8_acceptRanges) :
    Lib.Utf8Tabs (vLays_ren.g 3) (vLays_ren.g 4) w := by
  rw [first_same] at h1
  rw [accept_same] at h2
  exact Go.Proofs.utf8Tabs_of_readsT (U8Types.of196 vLays) ⟨by kernel_rfl, by kernel_rfl, by kernel_rfl, by kernel_rfl, by kernel_rfl, by kernel_rfl, by kernel_rfl⟩ h1 h2

theorem valid_any (w : World) (hT : Lib.Utf8Tabs (vLays_ren.g 3) (vLays_ren.g 4) w) (s : ByteArray) (w1 : World) (hs : s.size ≤ 30) (hb : Below w.heap.size w w1) :
    Calls Tryd.prog 10 #[.string s] w1 (RetB (Below w1.heap.size w1)) := by
  have c : Calls Tryd.prog 10 #[.string s] w1 _ := Any.utf8_ValidString vLays s w1 (by omega) (Utf8Tabs_below hT hb)
  exact c.mono fun e w2 h => ⟨_, h.1, h.2⟩

end Go.Proofs.YtkapmpngglibjaaDoor
