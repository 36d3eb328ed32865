/- Several texts in one: what each begins with says what it shows. Conditions: each law's own premises. -/
import Derived.Test.YtkapmpngglibjaaQ24
import Derived.Test.YtkapmpngglibjaaQ22
import Derived.Shelf.Strings.Builder1
import Derived.Ground.Names2Prog
import Derived.Test.YtkapmpngglibjaaQ02
import Derived.Shelf.Abstract
import Derived.Shelf.RegionOpen
import Derived.WalkKit
import Derived.OwnWalkIn
import Derived.TacticsInMore
import Derived.LoopNIn
import Derived.LoopIn

/- All rows as a text, and read again: plain. Conditions: each law's own premises. -/
namespace Go.Proofs.Ytkapmpngglibjaa
open Go Go.RowKit

/-- A row, and all rows, as a text. -/
def rowB (c : Chg) : ByteArray := ⟨#[UInt8.ofNat c.key.size, UInt8.ofNat c.val.size, UInt8.ofNat (c.val.size / 256)]⟩ ++ c.key ++ c.val
def allB : List Chg → ByteArray
  | [] => ⟨#[]⟩
  | c :: l => rowB c ++ allB l

/-- Rows that a store may have. -/
structure GoodRows (l : List Chg) : Prop where
  rise : Rising l
  ok : ∀ c ∈ l, faultOf c = 0
  there : ∀ c ∈ l, c.gone = false
  most : l.length ≤ 64

theorem ok_sizes {c : Chg} (h : faultOf c = 0) : c.key.size ≤ 48 ∧ c.val.size ≤ 44 ∧ c.key.toList ≠ [] := by
  unfold faultOf at h
  split at h
  · cases h
  · rename_i h1
    split at h
    · cases h
    · rename_i h2
      simp only [not_or] at h1
      refine ⟨by omega, by omega, fun e => h1.1 (by rw [e]; rfl)⟩

theorem rowB_size (c : Chg) : (rowB c).size = 3 + c.key.size + c.val.size := by
  unfold rowB
  rw [ByteArray.size_append, ByteArray.size_append]
  rfl

theorem allB_size : ∀ (l : List Chg), (∀ c ∈ l, faultOf c = 0) → (allB l).size ≤ 95 * l.length
  | [], _ => Nat.le_refl _
  | c :: l, h => by
    have h1 := allB_size l (fun x hx => h x (List.mem_cons_of_mem _ hx))
    have h2 := ok_sizes (h c (List.mem_cons_self ..))
    rw [allB, ByteArray.size_append, rowB_size, List.length_cons]
    omega

theorem allB_append : ∀ (a b : List Chg), allB (a ++ b) = allB a ++ allB b
  | [], b => by
    apply ba_ext
    simp [allB]
  | c :: a, b => by
    rw [List.cons_append, allB, allB_append a b, allB]
    apply ba_ext
    simp

theorem rowB_list (c : Chg) (r : ByteArray) : (rowB c ++ r).data.toList = UInt8.ofNat c.key.size :: UInt8.ofNat c.val.size :: UInt8.ofNat (c.val.size / 256) :: (c.key.data.toList ++ (c.val.data.toList ++ r.data.toList)) := by
  simp [rowB]

/-- What a text of rows begins with. -/
theorem rowB_head (c : Chg) (r : ByteArray) (h : faultOf c = 0) :
    byteAt (rowB c ++ r) 0 = c.key.size ∧ byteAt (rowB c ++ r) 1 = c.val.size ∧ byteAt (rowB c ++ r) 2 = 0 ∧ (rowB c ++ r).extract 3 (3 + c.key.size) = c.key ∧
      (rowB c ++ r).extract (3 + c.key.size) (3 + c.key.size + c.val.size) = c.val ∧ (rowB c ++ r).extract (3 + c.key.size + c.val.size) (3 + c.key.size + c.val.size + r.size) = r := by
  obtain ⟨h1, h2, -⟩ := ok_sizes h
  refine ⟨?_, ?_, ?_, ?_, ?_, ?_⟩
  · rw [byteAt_list, rowB_list]
    simp
    omega
  · rw [byteAt_list, rowB_list]
    simp
    omega
  · rw [byteAt_list, rowB_list]
    simp
    omega
  · apply ba_ext
    rw [extract_list, rowB_list]
    simp only [List.drop_succ_cons, List.drop_zero]
    rw [show 3 + c.key.size - 3 = c.key.data.toList.length by rw [← size_list c.key]; omega, List.take_left' rfl]
  · apply ba_ext
    rw [extract_list, rowB_list]
    rw [show 3 + c.key.size = c.key.size + 1 + 1 + 1 by omega]
    simp only [List.drop_succ_cons]
    rw [size_list c.key, List.drop_left' rfl, show c.key.data.toList.length + 1 + 1 + 1 + c.val.size - (c.key.data.toList.length + 1 + 1 + 1) = c.val.data.toList.length by rw [← size_list c.val]; omega, List.take_left' rfl]
  · apply ba_ext
    rw [extract_list, rowB_list]
    rw [show 3 + c.key.size + c.val.size = (c.key.size + c.val.size) + 1 + 1 + 1 by omega]
    simp only [List.drop_succ_cons]
    rw [← List.append_assoc, size_list c.key, size_list c.val, List.drop_left' (by simp), List.take_of_length_le (by rw [← size_list r]; omega)]

/-- A row behind all others is laid behind them. -/
theorem put1_snoc {l : List Chg} {c : Chg} (h : Rising (l ++ [c])) (hg : c.gone = false) : put1 l c = l ++ [c] := by
  have hb : ∀ x ∈ l, bl x.key.toList c.key.toList = true := fun x hx => (List.pairwise_append.1 h).2.2 x hx c (by simp)
  have hlow : lowOf l c.key = l.length := by
    refine low_unique l c.key l.length (Nat.le_refl _) (fun j x _ hx => hb x (List.mem_of_getElem? hx)) (fun x hx => ?_)
    rw [List.getElem?_eq_none (Nat.le_refl _)] at hx
    cases hx
  have hhas : hasAt l c.key = false := by
    unfold hasAt
    rw [hlow, List.getElem?_eq_none (Nat.le_refl _)]
  unfold put1
  rw [hhas, hlow, if_neg (by simp), hg, if_neg (by simp), List.take_length, List.drop_length]

end Go.Proofs.Ytkapmpngglibjaa

/- strings.Builder: what is written comes out again. Conditions: each contract's own premises. -/
namespace Go.Proofs.Ytkapmpngglibjaa
open Go Go.RowKit Go.Shelf

def sbLays_ren : Go.Shelf.Ren := ⟨fun | 169 => 108 | n => n, fun | 70 => 165 | 9 => 9 | 0 => 0 | 72 => 167 | 37 => 129 | 127 => 178 | 3 => 3 | 5 => 5 | n => n, fun | n => n⟩
theorem sbLays : Go.Proofs.Lays.n169 Try.prog sbLays_ren := {
  mixed := by kernel_rfl
  f169 := Try.func108.trans (congrArg some (by kernel_rfl))
  t0 := Try.underlying0
  a0 := Try.isAgg0
  z0 := Try.sizeOf0
  v0 := Try.zeroValue0
  t3 := Try.underlying3
  a3 := Try.isAgg3
  z3 := Try.sizeOf3
  v3 := Try.zeroValue3
  t9 := Try.underlying9
  a9 := Try.isAgg9
  z9 := Try.sizeOf9
  v9 := Try.zeroValue9
  t37 := Try.underlying129
  a37 := Try.isAgg129
  z37 := Try.sizeOf129
  v37 := Try.zeroValue129
  t70 := Try.underlying165
  a70 := Try.isAgg165
  z70 := Try.sizeOf165
  v70 := Try.zeroValue165
  t72 := Try.underlying167
  a72 := Try.isAgg167
  z72 := Try.sizeOf167
  v72 := Try.zeroValue167
  t127 := Try.underlying178
  a127 := Try.isAgg178
  z127 := Try.sizeOf178
  v127 := Try.zeroValue178 }
theorem sbExtra : Builder.Extra Try.prog sbLays_ren := {
  sizeBuilder := by kernel_rfl
  liesBuilder := by kernel_rfl
  t5 := Try.underlying5
  a5 := Try.isAgg5
  z5 := Try.sizeOf5
  v5 := Try.zeroValue5
  infoByte := by kernel_rfl
  cellsByte := by kernel_rfl
  sizeByte := by kernel_rfl
  neB5 := by decide }

set_option maxRecDepth 100000 in
theorem sb_copyCheck_used (b : Nat) (w : World) (h0 : w.cell? ⟨b, 0, none⟩ = some (.pointer (some ⟨b, 0, none⟩))) :
    Calls Try.prog 117 #[.pointer (some ⟨b, 0, none⟩)] w fun e w' => e = .returned (.tuple #[]) ∧ w' = w := by
  obtain ⟨j, hj, _⟩ := Option.map_eq_some_iff.1 sbExtra.sizeBuilder
  go_enter Try.func117, Try.ntmps117
  go_wp2
  rw [Lib.run_neq_ptr_same w _ Try.underlying165 hj]
  go_wp2
  go_end0
  exact ⟨rfl, rfl⟩

set_option maxRecDepth 100000 in
theorem sb_copyCheck_fresh (b : Nat) (w : World) (h0 : w.cell? ⟨b, 0, none⟩ = some (.pointer none)) (hsh : w.shape? b = some (167, 2)) (hfz : w.frozen? ⟨b, 0, none⟩ = false) :
    Calls Try.prog 117 #[.pointer (some ⟨b, 0, none⟩)] w fun e w' => e = .returned (.tuple #[]) ∧ w' = w.setCell ⟨b, 0, none⟩ (.pointer (some ⟨b, 0, none⟩)) := by
  obtain ⟨j, hj, hjs⟩ := Option.map_eq_some_iff.1 sbExtra.sizeBuilder
  go_enter Try.func117, Try.ntmps117
  go_wp2
  rw [Lib.run_to_unsafe w ⟨b, 0, none⟩ Try.underlying165 Try.underlying181 hj (by rw [hjs]; decide) hsh (Nat.zero_lt_succ 1)]
  simp only [Result.andThen]
  rw [Oper.upon_value]
  go_wp2
  rw [run_callFunc_extern Try.func121 (by kernel_rfl) (by kernel_rfl) (by kernel_rfl) (e := Extern.AbiNoEscape.same) (by kernel_rfl)]
  rw [Lib.run_noEscape]
  simp only [Result.andThen]
  rw [Oper.upon_value]
  go_wp2
  rw [Lib.run_from_unsafe w ⟨b, 0, none⟩ Try.underlying181 Try.underlying165 hj hsh sbExtra.liesBuilder]
  simp only [Result.andThen]
  rw [Oper.upon_value]
  go_wp2
  go_end0
  exact ⟨rfl, rfl⟩

set_option maxRecDepth 100000 in
theorem sb_copyCheck (B b : Nat) (bs : List Value) (w : World) (h : Lib.IsBuilder 167 5 B b bs w) :
    Calls Try.prog 117 #[.pointer (some ⟨b, 0, none⟩)] w fun e w' => e = .returned (.tuple #[]) ∧ (Lib.BuilderAt 167 5 B b (.pointer (some ⟨b, 0, none⟩)) bs w' ∧ Below B w w') := by
  rcases h with h | h
  · refine (sb_copyCheck_fresh b w h.cell0 h.shape h.frozen0).mono ?_
    rintro e w' ⟨rfl, rfl⟩
    exact ⟨rfl, h.used _, (Below.refl B w).setCell (p := ⟨b, 0, none⟩) h.1 _⟩
  · refine (sb_copyCheck_used b w h.cell0).mono ?_
    rintro e w' ⟨rfl, rfl⟩
    exact ⟨rfl, h, Below.refl B _⟩

set_option maxRecDepth 100000 in
set_option maxHeartbeats 2000000 in
theorem sb_write (B b : Nat) (bs : List Value) (s : ByteArray) (w : World) (h : Lib.IsBuilder 167 5 B b bs w) (hlen : bs.length + s.size ≤ 140737488355328) (hBw : B ≤ w.heap.size) :
    Calls Try.prog 107 #[.pointer (some ⟨b, 0, none⟩), .string s] w (Ret (.tuple #[.int .i64 s.size, .nilIface]) fun w' => Lib.IsBuilder 167 5 B b (bs ++ Lib.strCells s) w' ∧ Below B w w') := by
  obtain ⟨i0, hi, hz0, hz1, hz2⟩ := info_parts sbExtra.infoByte
  have HLEN := Lib.hid (fun (_ : Unit) => hlen)
  clear hlen
  go_enter Try.func107, Try.ntmps107
  go_wp2_with (go_at_call 117; refine (sb_copyCheck B b bs _ h).mono ?_)
  rintro e w1 ⟨rfl, h1, hb1⟩
  obtain ⟨hB, v, hbk, hown, hne⟩ := h1
  have c0 : w1.cell? ⟨b, 0, none⟩ = some (.pointer (some ⟨b, 0, none⟩)) := by rw [Lib.cell_of_heap hbk]; rfl
  have c1 : w1.cell? ⟨b, 1, none⟩ = some v := by rw [Lib.cell_of_heap hbk]; rfl
  go_wp2_with (at_builtin; refine Lib.wpList_append_own_string _ rfl _ _ 129 9 rfl B 5 i0 Try.underlying129 Try.underlying9 hi hz0 hz1 hz2 _ _ _ rfl hown s rfl ?c3 ?c4 ?c5 ?_)
  case c3 => have := HLEN.out (); unfold maxLen; omega
  case c4 => have := HLEN.out (); omega
  case c5 => have := hb1.size; omega
  intro v' w2 hown' hgrow _
  have hlt : b < w1.heap.size := by
    rcases Nat.lt_or_ge b w1.heap.size with h' | h'
    · exact h'
    · simp [Array.getElem?_eq_none h'] at hbk
  have hb2 : w2.heap[b]? = some (.cells #[.pointer (some ⟨b, 0, none⟩), v] 167 (0, 0)) := by
    rw [hgrow.block b hlt (fun e => hne e.symm)]
    exact hbk
  have d0 : w2.cell? ⟨b, 0, none⟩ = some (.pointer (some ⟨b, 0, none⟩)) := by rw [Lib.cell_of_heap hb2]; rfl
  have d1 : w2.cell? ⟨b, 1, none⟩ = some v := by rw [Lib.cell_of_heap hb2]; rfl
  have f1 : w2.frozen? ⟨b, 1, none⟩ = false := Lib.frozen_of_heap hb2 1
  obtain ⟨ao, n', cap, rfl⟩ : ∃ ao n' cap, v' = .slice ao n' cap := by
    rcases hown'.2 with ⟨hv, _⟩ | ⟨g, cap, cur, hv, _⟩
    · exact ⟨_, _, _, hv⟩
    · exact ⟨_, _, _, hv⟩
  go_wp2
  go_ret2
  refine Ret.of rfl ⟨.inr ?_, ?_⟩
  · exact Lib.BuilderAt.put (T := 167) (e := 5) hB hb2 (bs' := bs ++ Lib.strCells s) (by simpa [Lib.strCells_length] using hown') (by decide)
  · exact (hb1.grown hgrow (by have := hb1.size; omega) (fun k hk => (hown.lt k hk).1)).setCell (p := ⟨b, 1, none⟩) hB _

set_option maxRecDepth 100000 in
theorem sb_string (B b : Nat) (l : List UInt8) (w : World) (h : Lib.IsBuilder 167 5 B b (Lib.byteCells l) w) (hBw : B ≤ w.heap.size) :
    Calls Try.prog 108 #[.pointer (some ⟨b, 0, none⟩)] w (Ret (.string ⟨l.toArray⟩) fun w' => Below B w w') :=
  (Any.Builder_String_any sbLays sbExtra B b l w h hBw).mono fun _ _ h => h

end Go.Proofs.Ytkapmpngglibjaa

/- All rows as a text, written. Conditions: the contract's own premises. -/
namespace Go.Proofs.Ytkapmpngglibjaa
open Go Go.RowKit

theorem conv_three (X Y Z : Int) (x y z : Nat) (hX : X = x) (hY : Y = y) (hZ : Z = z) (hx : x < 256) (hy : y < 256) (hz : z < 256) (u : World) (b : Nat) (hb : u.heap[b]? = some (.cells #[.int .u8 X, .int .u8 Y, .int .u8 Z] 5 (0, 0))) :
    (convert 129 9 (.slice (some ⟨b, 0, none⟩) 3 3)).run Try.prog u = .ok (.string ⟨#[UInt8.ofNat x, UInt8.ofNat y, UInt8.ofNat z]⟩) u := by
  subst hX hY hZ
  have h := run_convert_bytes_back (P := Try.prog) u 129 9 5 ⟨b, 0, none⟩ 3 [UInt8.ofNat x, UInt8.ofNat y, UInt8.ofNat z] Try.underlying129 Try.underlying5 Try.underlying9
    (by
      intro j hj
      rw [add_off, Nat.zero_add, cell_of hb]
      match j, hj with
      | 0, _ => simp [Nat.mod_eq_of_lt hx]
      | 1, _ => simp [Nat.mod_eq_of_lt hy]
      | 2, _ => simp [Nat.mod_eq_of_lt hz])
  simpa using h

theorem sb_later {B b : Nat} {bs : List Value} {w w' : World} (h : Lib.IsBuilder 167 5 B b bs w) (hb : Below w.heap.size w w') : Lib.IsBuilder 167 5 B b bs w' := by
  rcases h with ⟨h1, v, h2, h3, h4⟩ | ⟨h1, v, h2, h3, h4⟩
  · exact .inl ⟨h1, v, (hb.block _ (lt_of_heap h2)).trans h2, owns_frame h3 (Frame.of_below [] hb) (by simp), h4⟩
  · exact .inr ⟨h1, v, (hb.block _ (lt_of_heap h2)).trans h2, owns_frame h3 (Frame.of_below [] hb) (by simp), h4⟩

set_option maxHeartbeats 4000000 in
set_option maxRecDepth 100000 in
theorem allRows_good (v : Value) (rows : List Chg) (w : World) (h : ChangesAt w v rows) (hok : ∀ c ∈ rows, faultOf c = 0) (hn : rows.length ≤ 64) :
    Calls Try.prog 92 #[v] w (Ret (.string (allB rows)) fun w' => Below w.heap.size w w') := by
  obtain ⟨ao, cap, rfl, hr⟩ := h.form
  obtain ⟨n, hnn⟩ : ∃ n, n = rows.length := ⟨_, rfl⟩
  rw [← hnn] at hn ⊢
  have HR := Lib.hid hr
  have HN := Lib.hid hnn
  have HOK := Lib.hid hok
  clear hr hnn h hok
  have n0 : (0 : Int) ≤ (n : Int) := by omega
  have n1 : (n : Int) ≤ 64 := by omega
  go_enter Try.func92, Try.ntmps92
  go_wp2_with fail
  have hB0 : Below w.heap.size w (w.alloc (.cells #[.pointer none, .slice none 0 0] 167)) := (Below.refl _ _).alloc (Nat.le_refl _) _
  have hI0 : Lib.IsBuilder 167 5 w.heap.size w.heap.size (Lib.byteCells (allB (rows.take 0)).data.toList) (w.alloc (.cells #[.pointer none, .slice none 0 0] 167)) :=
    .inl ⟨Nat.le_refl _, _, heap_alloc_new w _, World.ownsRow_nil _ _ _ _, by simp [Value.ownBlock]⟩
  have H0 := Lib.hid (And.intro hB0 hI0)
  clear hB0 hI0
  generalize w.alloc (.cells #[.pointer none, .slice none 0 0] 167) = w0 at *
  go_loopw [8] (fun i wr => ∃ k : Nat, k ≤ n ∧ i = .int .i64 (k : Int) ∧ Hid (Below w.heap.size w wr ∧ Lib.IsBuilder 167 5 w.heap.size w.heap.size (Lib.byteCells (allB (rows.take k)).data.toList) wr)) (fun i _ => n - (intOf i).toNat)
  case atStart => exact ⟨0, Nat.zero_le _, rfl, H0⟩
  case round =>
    clear H0
    obtain ⟨k, hk, rfl, HI⟩ := hrel
    have k0 : (0 : Int) ≤ (k : Int) := by omega
    by_cases hlt : k < n
    · have k1 : (k : Int) < (n : Int) := by omega
      obtain ⟨⟨ck, cv, cg⟩, hc⟩ : ∃ a, rows[k]? = some a := ⟨_, List.getElem?_eq_getElem (by rw [← HN.out]; exact hlt)⟩
      obtain ⟨b1, off, rfl, c0, c1, c2⟩ := HR.out k _ hc
      obtain ⟨z1, z2, -⟩ := ok_sizes (HOK.out _ (List.mem_of_getElem? hc))
      have hall : allB (rows.take (k + 1)) = allB (rows.take k) ++ rowB ⟨ck, cv, cg⟩ := by
        rw [List.take_add_one, hc, allB_append]
        congr 1
        apply ba_ext
        simp [allB]
      have HALL := Lib.hid (fun (_ : Unit) => hall)
      have hsz : (allB (rows.take k)).size ≤ 6080 := by
        have h1 := allB_size (rows.take k) (fun x hx => HOK.out x (List.mem_of_mem_take hx))
        rw [List.length_take] at h1
        omega
      have HSZ := Lib.hid (fun (_ : Unit) => hsz)
      have d0 := (HI.out.1.cell (World.block_lt_of_cell? w _ c0)).trans c0
      have d1 := (HI.out.1.cell (World.block_lt_of_cell? w _ c1)).trans c1
      have d2 := (HI.out.1.cell (World.block_lt_of_cell? w _ c2)).trans c2
      simp only at z1 z2
      clear hc c0 c1 c2 hall hsz
      have ks : (ck.size : Int) ≤ 48 := by omega
      have vs : (cv.size : Int) ≤ 44 := by omega
      have e1 : IntKind.u8.wrap (ck.size : Int) = (ck.size : Int) := by simp only [IntKind.wrap]; simp [IntKind.signed, IntKind.bits]; omega
      have e2 : IntKind.u8.wrap (cv.size : Int) = (cv.size : Int) := by simp only [IntKind.wrap]; simp [IntKind.signed, IntKind.bits]; omega
      have e3 : (cv.size : Int) / 256 = 0 := by omega
      have e4 : IntKind.u8.wrap 0 = 0 := by decide
      have g1 : ¬ (9223372036854775807 < 3 + ck.size) := by omega
      have g2 : ¬ (9223372036854775807 < 3 + ck.size + cv.size) := by omega
      have HA := Lib.hid (heap_alloc_new wr (.cells #[.string ck, .string cv, .bool cg] 64))
      have hconv := conv_three (ck.size : Int) (cv.size : Int) 0 ck.size cv.size 0 rfl rfl rfl (by omega) (by omega) (by omega) ((wr.alloc (.cells #[.string ck, .string cv, .bool cg] 64)).alloc (.cells #[.int .u8 (ck.size : Int), .int .u8 (cv.size : Int), .int .u8 0] 5)) (wr.heap.size + 1)
        (by rw [← size_alloc wr (.cells #[.string ck, .string cv, .bool cg] 64), heap_alloc_new])
      go_wp2_with fail
      have hBA : Below wr.heap.size wr ((wr.alloc (.cells #[.string ck, .string cv, .bool cg] 64)).alloc (.cells #[.int .u8 (ck.size : Int), .int .u8 (cv.size : Int), .int .u8 0] 5)) := ((Below.refl _ wr).alloc (Nat.le_refl _) _).alloc (by rw [size_alloc]; omega) _
      have HBA := Lib.hid hBA
      have hrow : rowB ⟨ck, cv, cg⟩ = (⟨#[UInt8.ofNat ck.size, UInt8.ofNat cv.size, 0]⟩ : ByteArray) ++ ck ++ cv := by
        rw [rowB, show cv.size / 256 = 0 by omega]
        rfl
      have hss : ((⟨#[UInt8.ofNat ck.size, UInt8.ofNat cv.size, 0]⟩ : ByteArray) ++ ck ++ cv).size ≤ 95 := by
        rw [← hrow, rowB_size]
        simp only
        omega
      refine (sb_write w.heap.size w.heap.size _ _ _ (sb_later HI.out.2 hBA) (by rw [Lib.byteCells_length, Array.length_toList]; have := HSZ.out (); show (allB (rows.take k)).size + _ ≤ _; omega) (Nat.le_trans HI.out.1.size hBA.size)).mono ?_
      rintro e w5 ⟨rfl, hI5, hB5⟩
      have HI5 := Lib.hid (show Below w.heap.size w w5 ∧ Lib.IsBuilder 167 5 w.heap.size w.heap.size (Lib.byteCells (allB (rows.take (k + 1))).data.toList) w5 from
        ⟨HI.out.1.trans ((HBA.out.mono HI.out.1.size).trans hB5), by
          rw [HALL.out (), hrow, ByteArray.data_append, Array.toList_append, Lib.byteCells_append]
          exact hI5⟩)
      clear hI5 hB5 hBA hrow hss hconv d0 d1 d2
      go_wp2_with fail
      exact ⟨⟨k + 1, by omega, by go_num, HI5⟩, by simp [intOf]; omega⟩
    · obtain rfl : k = n := by omega
      have hall : rows.take k = rows := List.take_of_length_le (by rw [HN.out]; exact Nat.le_refl _)
      have HALL := Lib.hid (fun (_ : Unit) => hall)
      clear hall
      go_wp2_with fail
      refine (sb_string w.heap.size w.heap.size (allB (rows.take k)).data.toList wr HI.out.2 HI.out.1.size).mono ?_
      rintro e w2 ⟨rfl, hB2⟩
      have HB2 := Lib.hid (HI.out.1.trans hB2)
      clear hB2
      go_wp2_with fail
      go_ret
      exact Ret.of (by rw [HALL.out ()]; rfl) HB2.out

end Go.Proofs.Ytkapmpngglibjaa

/- slices.Chunk of bytes, 140 at a time: its contract, for every loop body that leaves the two boxes. Conditions: each contract's own premises. -/
namespace Go.Proofs.Ytkapmpngglibjaa
open Go Go.RowKit Go.Shelf
attribute [local go_sem] Oper.semAt_some

/-- The k-th chunk of bytes at block bb. -/
def chunkV (bb len k : Nat) : Value := .slice (some ⟨bb, 140 * k, none⟩) (min 140 (len - 140 * k)) (min 140 (len - 140 * k))
def chunks (len : Nat) : Nat := (len + 139) / 140
/-- What a round must leave: the two boxes. -/
def BoxKp (bs bn : Nat) (W W' : World) : Prop := W'.heap[bs]? = W.heap[bs]? ∧ W'.heap[bn]? = W.heap[bn]?

theorem chunkMake_any (ao : Option Addr) (len cap : Nat) (w : World) : Calls Try.prog 93 #[.slice ao len cap, .int .i64 140] w (Ret (.func (.func 109) #[] #[.pointer (some ⟨w.heap.size, 0, none⟩), .pointer (some ⟨w.heap.size + 1, 0, none⟩)]) fun w' =>
    w' = (w.alloc (.cells #[.slice ao len cap] 129)).alloc (.cells #[.int .i64 140] 3)) := by
  go_enter Try.func93, Try.ntmps93
  go_wp2_with fail
  go_ret
  exact Ret.of rfl rfl

set_option maxHeartbeats 4000000 in
set_option maxRecDepth 100000 in
theorem chunk1_in (n : Nat) (hn : 1 ≤ n) (l bs bn bb len cap : Nat) (hlc : len ≤ cap) (hlen : len ≤ 6160) (J Jx : List Nat → World → Prop) (hJd : ∀ pre W, J pre W → J pre W.drew)
    (hY : ∀ pre k W, J pre W → pre.length < chunks len → YieldAt Fence.wide (n - 1) Try.prog l #[chunkV bb len k] W fun e W' =>
      (e = .returned (.bool true) ∧ J (pre ++ [k]) W' ∧ BoxKp bs bn W W') ∨ (e = .returned (.bool false) ∧ Jx (pre ++ [k]) W'))
    (W : World) (hbs : W.heap[bs]? = some (.cells #[.slice (some ⟨bb, 0, none⟩) len cap] 129 (0, 0))) (hbn : W.heap[bn]? = some (.cells #[.int .i64 140] 3 (0, 0))) (h0 : J [] W) :
    CallsIn Fence.wide n Try.prog 109 #[.func (.yield l) #[] #[], .pointer (some ⟨bs, 0, none⟩), .pointer (some ⟨bn, 0, none⟩)] W fun e W' => (∃ v, e = .returned v) ∧
      ((∃ ys, ys = List.range (chunks len) ∧ J ys W') ∨ (∃ pre, (∃ k, k ≤ chunks len ∧ pre = List.range k) ∧ Jx pre W')) := by
  have hm : ∀ k, k < chunks len ↔ 140 * k < len := fun k => by unfold chunks; omega
  have HM := Lib.hid hm
  have HLC := Lib.hid (fun (_ : Unit) => And.intro hlc hlen)
  have HYY := Lib.hid hY
  clear hm hY
  refine callsIn_of_wp Try.func109 rfl trivial ?_ rfl
  simp only [Try.ntmps109, List.size_toArray, List.length_cons, List.length_nil, Nat.reduceAdd, Nat.reduceSub, Array.replicate_succ, Array.replicate_zero, List.push_toArray, List.append_toArray, List.nil_append, List.cons_append]
  gi_wp2
  gi_loopw [4] (fun i wr => ∃ k : Nat, k ≤ chunks len ∧ i = .int .i64 (140 * (k : Int)) ∧ Hid (J (List.range k) wr ∧ wr.heap[bs]? = some (.cells #[.slice (some ⟨bb, 0, none⟩) len cap] 129 (0, 0)) ∧ wr.heap[bn]? = some (.cells #[.int .i64 140] 3 (0, 0)))) (fun i _ => len + 140 - (intOf i).toNat)
  case atStart => exact ⟨0, Nat.zero_le _, rfl, h0, hbs, hbn⟩
  case round =>
    obtain ⟨k, hk, rfl, HR⟩ := hrel
    have cs := cell_of HR.out.2.1 0
    have cn := cell_of HR.out.2.2 0
    simp only [List.getElem?_toArray, List.getElem?_cons_zero] at cs cn
    have hk44 : k ≤ 45 := by have := (HLC.out ()).2; unfold chunks at hk; omega
    have k0 : (0 : Int) ≤ 140 * (k : Int) := by omega
    by_cases hlt : k < chunks len
    · have hlt' := (HM.out k).1 hlt
      have k1 : 140 * (k : Int) < (len : Int) := by omega
      obtain ⟨fn, tmps, assign, body, hy, hR⟩ := HYY.out _ k wr.drew (hJd _ _ HR.out.1) (by rw [List.length_range]; exact hlt)
      unfold chunkV at hy
      obtain ⟨e, he⟩ : ∃ e, e = min 140 (len - 140 * k) := ⟨_, rfl⟩
      rw [← he] at hy
      have hlc2 := (HLC.out ()).1
      have k2 : 140 * (k : Int) ≤ (len : Int) := by omega
      have k3 : (140 * (k : Int)).toNat = 140 * k := by omega
      have k4 : 140 * (k : Int) ≤ (cap : Int) := by omega
      have hmin : min (140 : Int) ((len : Int) - 140 * (k : Int)) = (e : Int) := by omega
      have hsub : ((len - 140 * k : Nat) : Int) = (len : Int) - 140 * (k : Int) := by omega
      have e0 : (0 : Int) ≤ (e : Int) := by omega
      have e1 : 140 * (k : Int) + (e : Int) ≤ (len : Int) := by omega
      have e2 : 140 * (k : Int) + (e : Int) ≤ (cap : Int) := by omega
      have e3 : (140 * (k : Int) + (e : Int)).toNat = 140 * k + e := by omega
      have e4 : IntKind.i64.wrap (140 * (k : Int) + (e : Int)) = 140 * (k : Int) + (e : Int) := IntWalk.i64_in _ (by omega)
      have e5 : 140 * (k : Int) ≤ 140 * (k : Int) + (e : Int) := by omega
      have e6 : (0 : Int) ≤ 140 * (k : Int) + (e : Int) := by omega
      clear he
      gi_wp2
      refine wpIn_wide.2 ?_
      refine wp_region_plan (fun w2 => w2 = wr.drew) 31 [([0, 1, 2, 3, 4, 5, 6], [], false)] (by kernel_rfl) (by kernel_rfl) ?_
      apply wpStages_last
      case hT => rfl
      case hn => exact Nat.le_refl _
      case hq =>
        rintro w2 rfl
        simp only [picked, List.filterMap_cons, List.filterMap_nil, List.getElem?_cons_zero, List.getElem?_cons_succ]
        repeat still_step
        exact wpStill_nil rfl
      simp only [picked, List.filterMap_nil]
      refine wpList_nil (OnlyNormal.mk ?_)
      have hne : ¬ cap = 140 * k := by omega
      gi_wp2
      refine hR.mono ?_
      clear hy hR
      rintro e W3 (⟨rfl, hJ3, hk3⟩ | ⟨rfl, hJx3⟩)
      · have HR3 := Lib.hid (show J (List.range (k + 1)) W3 ∧ W3.heap[bs]? = some (.cells #[.slice (some ⟨bb, 0, none⟩) len cap] 129 (0, 0)) ∧ W3.heap[bn]? = some (.cells #[.int .i64 140] 3 (0, 0)) from
          ⟨by rw [List.range_succ]; exact hJ3, hk3.1.trans HR.out.2.1, hk3.2.trans HR.out.2.2⟩)
        have cn3 := cell_of HR3.out.2.2 0
        simp only [List.getElem?_toArray, List.getElem?_cons_zero] at cn3
        have e7 : IntKind.i64.wrap (140 * (k : Int) + 140) = 140 * (k : Int) + 140 := IntWalk.i64_in _ (by omega)
        gi_wp2
        go_roundw
        case rel => exact ⟨k + 1, by omega, by go_num, HR3⟩
        case measure => simp [intOf]; omega
      · gi_wp2
        refine bodyPost_ret (results_none rfl _ _ _) rfl ?_
        exact ⟨⟨_, rfl⟩, .inr ⟨_, ⟨k + 1, by omega, by rw [List.range_succ]⟩, hJx3⟩⟩
    · have hge : len ≤ 140 * k := by have := HM.out k; omega
      have k1 : (len : Int) ≤ 140 * (k : Int) := by omega
      obtain rfl : k = chunks len := by omega
      gi_wp2
      go_end0
      exact ⟨⟨_, rfl⟩, .inl ⟨_, rfl, HR.out.1⟩⟩

/-- The contract, for a caller's law. -/
theorem chunk_stops (n : Nat) (hn : 1 ≤ n) (bs bn bb len cap : Nat) (hlc : len ≤ cap) (hlen : len ≤ 6160) (w : World) (hbs : w.heap[bs]? = some (.cells #[.slice (some ⟨bb, 0, none⟩) len cap] 129 (0, 0))) (hbn : w.heap[bn]? = some (.cells #[.int .i64 140] 3 (0, 0))) :
    SeqStopsK Fence.wide n Try.prog 109 #[.pointer (some ⟨bs, 0, none⟩), .pointer (some ⟨bn, 0, none⟩)] (fun k : Nat => #[chunkV bb len k]) (BoxKp bs bn) (fun ys => ys = List.range (chunks len)) (fun pre => ∃ k, k ≤ chunks len ∧ pre = List.range k) (chunks len) w :=
  fun l J Jx W hW hJ _ hY h0 => by
    have q1 := (hW.block _ (lt_of_heap hbs)).trans hbs
    have q2 := (hW.block _ (lt_of_heap hbn)).trans hbn
    refine (chunk1_in n hn l bs bn bb len cap hlc hlen J Jx (fun pre W h => hJ pre W _ none h ⟨rfl, rfl, rfl, Nat.le_refl _, fun _ _ _ => rfl⟩ (fun r e => by cases e)) hY W q1 q2 h0).mono ?_
    rintro e W' ⟨he, h⟩
    exact ⟨he, h⟩

end Go.Proofs.Ytkapmpngglibjaa
