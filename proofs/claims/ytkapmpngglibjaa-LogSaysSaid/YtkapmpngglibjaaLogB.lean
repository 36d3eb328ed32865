/- A log on a disk, and a look at a sector. Conditions: each contract's own premises. -/
import Derived.Test.YtkapmpngglibjaaLogA
namespace Go.Proofs.Ytkapmpngglibjaa
open Go Go.RowKit
/-! ### a log, plain and in memory -/

structure LM where
  from_ : Nat
  many : Nat
  first : Nat
  next : Nat

/-- The log L on the disk at block db, a struct at block b. -/
def LogAt (w : World) (b db : Nat) (L : LM) : Prop :=
  w.heap[b]? = some (.cells #[.pointer (some ⟨db, 0, none⟩), .int .i64 (L.from_ : Int), .int .i64 (L.many : Int), .int .i64 (L.first : Int), .int .i64 (L.next : Int)] 137 (0, 0))

theorem LogAt.cells {w : World} {b db : Nat} {L : LM} (h : LogAt w b db L) : w.cell? ⟨b, 0, none⟩ = some (.pointer (some ⟨db, 0, none⟩)) ∧ w.cell? ⟨b, 1, none⟩ = some (.int .i64 (L.from_ : Int)) ∧
    w.cell? ⟨b, 2, none⟩ = some (.int .i64 (L.many : Int)) ∧ w.cell? ⟨b, 3, none⟩ = some (.int .i64 (L.first : Int)) ∧ w.cell? ⟨b, 4, none⟩ = some (.int .i64 (L.next : Int)) :=
  ⟨cell_of h 0, cell_of h 1, cell_of h 2, cell_of h 3, cell_of h 4⟩

theorem Frame.drewN {X : List Nat} {a w : World} (h : Frame X a w) (n : Nat) : Frame X a (w.drewN n) := ⟨h.os, h.tape, h.output, h.size, h.block⟩
theorem DiskAt.drewN {w : World} {T tw b : Nat} {X : List Nat} {D : DM} (h : DiskAt w T tw b X D) (n : Nat) : DiskAt (w.drewN n) T tw b X D :=
  h.frame (Y := []) ((Frame.refl [] w).drewN n) (by simp)

theorem read_ok (b : Nat) (X : List Nat) (D : DM) (p : Nat) (s : ByteArray) (w : World) (hD : DiskAt w 107 111 b X D) (hd : D.down = false) (hs : D.now[p]? = some s) :
    Calls Try.prog 19 #[.pointer (some ⟨b, 0, none⟩), .int .i64 (p : Int)] w fun e w' => e = .returned (.tuple #[.string s, .nilIface]) ∧ w' = w := by
  refine (read_any b X D p w hD).mono ?_
  rintro e w' ⟨rfl, rfl⟩
  have hlt := (List.getElem?_eq_some_iff.1 hs).1
  refine ⟨?_, rfl⟩
  have h1 : D.read (p : Int) = (s, 0) := by
    rw [DM.read, hd, if_neg (by simp), if_neg (by omega)]
    simp [List.getD, hs]
  rw [h1]
  rfl

/-- What a sector says that should have the number n: its kind, and what it has; false: it is none of the log. -/
def lookOf (s : ByteArray) (n : Nat) : Nat × ByteArray × Bool :=
  if (s.extract 1 5).toList == (fourB n).toList && (byteAt s 0 == 111 || byteAt s 0 == 99) && decide (byteAt s 5 + 256 * byteAt s 6 ≤ 133) then
    (byteAt s 0, s.extract 7 (7 + (byteAt s 5 + 256 * byteAt s 6)), true)
  else (0, ⟨#[]⟩, false)
def lookV (r : Nat × ByteArray × Bool) : Value := .tuple #[.int .u8 (r.1 : Int), .string r.2.1, .bool r.2.2]

set_option maxHeartbeats 4000000 in
set_option maxRecDepth 100000 in
theorem look_any (b db : Nat) (X : List Nat) (D : DM) (L : LM) (i : Nat) (s : ByteArray) (w : World) (hD : DiskAt w 107 111 db X D) (hL : LogAt w b db L) (hd : D.down = false)
    (hs : D.now[L.from_ + i]? = some s) (hsz : s.size = 140) (hn : L.first + i < 2147483648) :
    Calls Try.prog 82 #[.pointer (some ⟨b, 0, none⟩), .int .i64 (i : Int)] w (Ret (lookV (lookOf s (L.first + i))) fun w' => Below w.heap.size w w') := by
  obtain ⟨l0, l1, l2, l3, l4⟩ := hL.cells
  obtain ⟨fr, many, first, next⟩ := L
  simp only at *
  have hlt := (List.getElem?_eq_some_iff.1 hs).1
  have hmost := hD.ok.most
  have hrd := fun m => Calls.quiet_of_same (n := m) (read_ok db X D (fr + i) s (w.drewN m) (hD.drewN m) hd hs)
  have HRD := Lib.hid hrd
  have i0 : (0 : Int) ≤ (i : Int) := by omega
  have i1 : (i : Int) ≤ 130 := by omega
  have f0 : (0 : Int) ≤ (fr : Int) := by omega
  have f1 : (fr : Int) ≤ 130 := by omega
  have g0 : (0 : Int) ≤ (first : Int) := by omega
  have g1 : (first : Int) + (i : Int) < 2147483648 := by omega
  have hwr : IntKind.i64.wrap ((fr : Int) + (i : Int)) = ((fr + i : Nat) : Int) := by rw [IntWalk.i64_in _ (by omega)]; omega
  have HSZ := Lib.hid hsz
  have HD := Lib.hid hD
  have HL := Lib.hid hL
  clear hrd hsz hs hD hL hmost hlt hn
  go_enter Try.func82, Try.ntmps82
  go_wp2_with fail
  go_quiet ((go_at_call 19; exact HRD.out _))
  clear hwr
  have s1 : (1 : Int) ≤ (s.size : Int) := by have := HSZ.out; omega
  have s5 : (5 : Int) ≤ (s.size : Int) := by have := HSZ.out; omega
  have s6 : (6 : Int) < (s.size : Int) := by have := HSZ.out; omega
  have t0 : 0 < s.size := by have := HSZ.out; omega
  have t5 : 5 < s.size := by have := HSZ.out; omega
  have t6 : 6 < s.size := by have := HSZ.out; omega
  have x0 := byteAt_eq s 0 (by have := HSZ.out; omega)
  have x5 := byteAt_eq s 5 (by have := HSZ.out; omega)
  have x6 := byteAt_eq s 6 (by have := HSZ.out; omega)
  have m0 := byteAt_lt s 0
  have m5 := byteAt_lt s 5
  have m6 := byteAt_lt s 6
  have FALSE := Lib.hid (fun (h : ((s.extract 1 5).toList == (fourB (first + i)).toList && (byteAt s 0 == 111 || byteAt s 0 == 99) && decide (byteAt s 5 + 256 * byteAt s 6 ≤ 133)) = false) =>
    (show lookOf s (first + i) = (0, ⟨#[]⟩, false) by rw [lookOf, h]; rfl))
  have TRUE := Lib.hid (fun (h : ((s.extract 1 5).toList == (fourB (first + i)).toList && (byteAt s 0 == 111 || byteAt s 0 == 99) && decide (byteAt s 5 + 256 * byteAt s 6 ≤ 133)) = true) =>
    (show lookOf s (first + i) = (byteAt s 0, s.extract 7 (7 + (byteAt s 5 + 256 * byteAt s 6)), true) by rw [lookOf, h]; rfl))
  generalize byteAt s 0 = b0 at *
  generalize byteAt s 5 = b5 at *
  generalize byteAt s 6 = b6 at *
  have b00 : (0 : Int) ≤ (b0 : Int) := by omega
  have b01 : (b0 : Int) ≤ 255 := by omega
  have b50 : (0 : Int) ≤ (b5 : Int) := by omega
  have b51 : (b5 : Int) ≤ 255 := by omega
  have b60 : (0 : Int) ≤ (b6 : Int) := by omega
  have b61 : (b6 : Int) ≤ 255 := by omega
  have HB0 := Lib.hid (below_drewN (Below.refl w.heap.size w) nq)
  have LCELLS := Lib.hid (fun w2 (hT : Below (w.drewN nq).heap.size (w.drewN nq) w2) => LogAt.cells (L := ⟨fr, many, first, next⟩) (w := w2) ((hT.block _ (lt_of_heap (show (w.drewN nq).heap[b]? = _ from HL.out))).trans HL.out))
  clear l0 l1 l2 l3 l4 m0 m5 m6
  generalize w.drewN nq = wq at HB0 LCELLS ⊢
  have hw1 : IntKind.i64.wrap ((first : Int) + (i : Int)) = ((first + i : Nat) : Int) := by rw [IntWalk.i64_in _ (by omega)]; omega
  go_wp2_with fail
  refine wp_region_plan (fun w2 => Below wq.heap.size wq w2) 64 [([0, 1, 2, 3, 4, 5, 6, 7, 8, 9, 10], [11], true), ([12, 13, 14, 15, 16, 17, 18, 19, 20, 21, 22, 23], [], false)] (by kernel_rfl) (by kernel_rfl) ?_
  apply wpStages_keep
  case hT => exact (Below.refl _ _).drew
  case hn => exact Nat.le_refl _
  case hq =>
    intro w2 hT
    obtain ⟨l0, l1, l2, l3, l4⟩ := (LCELLS.out w2 hT)
    simp only [picked, List.filterMap_cons, List.filterMap_nil, List.getElem?_cons_zero, List.getElem?_cons_succ]
    with_reducible refine wpStill_want ?hw (fun K hK => ?_)
    case hw => kernel_rfl
    (go_simp; refine hK _ ?_; clear hK K)
    with_reducible refine wpStill_want ?hw (fun K hK => ?_)
    case hw => kernel_rfl
    (go_simp; refine hK _ ?_; clear hK K)
    with_reducible refine wpStill_want ?hw (fun K hK => ?_)
    case hw => kernel_rfl
    (go_simp; refine hK _ ?_; clear hK K)
    with_reducible refine wpStill_want ?hw (fun K hK => ?_)
    case hw => kernel_rfl
    (go_simp; refine hK _ ?_; clear hK K)
    with_reducible refine wpStill_want ?hw (fun K hK => ?_)
    case hw => kernel_rfl
    (go_simp; refine hK _ ?_; clear hK K)
    with_reducible refine wpStill_want ?hw (fun K hK => ?_)
    case hw => kernel_rfl
    (go_simp; refine hK _ ?_; clear hK K)
    with_reducible refine wpStill_want ?hw (fun K hK => ?_)
    case hw => kernel_rfl
    (go_simp; refine hK _ ?_; clear hK K)
    with_reducible refine wpStill_want ?hw (fun K hK => ?_)
    case hw => kernel_rfl
    (go_simp; refine hK _ ?_; clear hK K)
    with_reducible refine wpStill_want ?hw (fun K hK => ?_)
    case hw => kernel_rfl
    (go_simp; refine hK _ ?_; clear hK K)
    with_reducible refine wpStill_want ?hw (fun K hK => ?_)
    case hw => kernel_rfl
    (go_simp; refine hK _ ?_; clear hK K)
    with_reducible refine wpStill_want ?hw (fun K hK => ?_)
    case hw => kernel_rfl
    (go_simp; refine hK _ ?_; clear hK K)
    exact wpStill_nil rfl
  simp only [picked, List.filterMap_cons, List.filterMap_nil, List.getElem?_cons_zero, List.getElem?_cons_succ]
  clear hw1
  go_wp2_with fail
  refine (four_any (first + i) _ (by omega)).mono ?_
  clear g1
  rintro e w3 ⟨rfl, hB3⟩
  have hT : Below wq.heap.size wq w3 := (Below.refl _ _).drew.trans hB3
  clear hB3
  go_wp2_with fail
  refine OnlyNormal.mk ⟨hT, ?_⟩
  cases hE : ((s.extract 1 5).toList == (fourB (first + i)).toList)
  · rw [hE] at FALSE TRUE
    apply wpStages_last
    case hT => exact hT
    case hn => exact Nat.le_refl _
    case hq =>
      intro w2 hT
      obtain ⟨l0, l1, l2, l3, l4⟩ := (LCELLS.out w2 hT)
      simp only [picked, List.filterMap_cons, List.filterMap_nil, List.getElem?_cons_zero, List.getElem?_cons_succ]
      with_reducible refine wpStill_want ?hw (fun K hK => ?_)
      case hw => kernel_rfl
      (go_simp; refine hK _ ?_; clear hK K)
      with_reducible refine wpStill_want ?hw (fun K hK => ?_)
      case hw => kernel_rfl
      (go_simp; refine hK _ ?_; clear hK K)
      with_reducible refine wpStill_want ?hw (fun K hK => ?_)
      case hw => kernel_rfl
      (go_simp; refine hK _ ?_; clear hK K)
      with_reducible refine wpStill_skip ?hw (fun K hK => ?_)
      case hw => kernel_rfl
      (go_simp; refine hK _ ?_; clear hK K)
      with_reducible refine wpStill_skip ?hw (fun K hK => ?_)
      case hw => kernel_rfl
      (go_simp; refine hK _ ?_; clear hK K)
      with_reducible refine wpStill_skip ?hw (fun K hK => ?_)
      case hw => kernel_rfl
      (go_simp; refine hK _ ?_; clear hK K)
      with_reducible refine wpStill_skip ?hw (fun K hK => ?_)
      case hw => kernel_rfl
      (go_simp; refine hK _ ?_; clear hK K)
      with_reducible refine wpStill_skip ?hw (fun K hK => ?_)
      case hw => kernel_rfl
      (go_simp; refine hK _ ?_; clear hK K)
      with_reducible refine wpStill_skip ?hw (fun K hK => ?_)
      case hw => kernel_rfl
      (go_simp; refine hK _ ?_; clear hK K)
      with_reducible refine wpStill_skip ?hw (fun K hK => ?_)
      case hw => kernel_rfl
      (go_simp; refine hK _ ?_; clear hK K)
      with_reducible refine wpStill_skip ?hw (fun K hK => ?_)
      case hw => kernel_rfl
      (go_simp; refine hK _ ?_; clear hK K)
      with_reducible refine wpStill_want ?hw (fun K hK => ?_)
      case hw => kernel_rfl
      (go_simp; refine hK _ ?_; clear hK K)
      exact wpStill_nil rfl
    refine wpList_nil (OnlyNormal.mk ?_)
    have HB := Lib.hid (HB0.out.trans (hT.mono HB0.out.size))
    clear hT
    go_wp2_with fail
    go_ret3
    exact Ret.of (by rw [FALSE.out (by simp)]; rfl) HB.out

  · rw [hE] at FALSE TRUE
    by_cases h111 : b0 = 111
    · subst h111
      apply wpStages_last
      case hT => exact hT
      case hn => exact Nat.le_refl _
      case hq =>
        intro w2 hT
        obtain ⟨l0, l1, l2, l3, l4⟩ := (LCELLS.out w2 hT)
        simp only [picked, List.filterMap_cons, List.filterMap_nil, List.getElem?_cons_zero, List.getElem?_cons_succ]
        with_reducible refine wpStill_want ?hw (fun K hK => ?_)
        case hw => kernel_rfl
        (go_simp; refine hK _ ?_; clear hK K)
        with_reducible refine wpStill_want ?hw (fun K hK => ?_)
        case hw => kernel_rfl
        (go_simp; refine hK _ ?_; clear hK K)
        with_reducible refine wpStill_want ?hw (fun K hK => ?_)
        case hw => kernel_rfl
        (go_simp; refine hK _ ?_; clear hK K)
        with_reducible refine wpStill_want ?hw (fun K hK => ?_)
        case hw => kernel_rfl
        (go_simp; refine hK _ ?_; clear hK K)
        with_reducible refine wpStill_want ?hw (fun K hK => ?_)
        case hw => kernel_rfl
        (go_simp; refine hK _ ?_; clear hK K)
        with_reducible refine wpStill_want ?hw (fun K hK => ?_)
        case hw => kernel_rfl
        (go_simp; refine hK _ ?_; clear hK K)
        with_reducible refine wpStill_want ?hw (fun K hK => ?_)
        case hw => kernel_rfl
        (go_simp; refine hK _ ?_; clear hK K)
        with_reducible refine wpStill_skip ?hw (fun K hK => ?_)
        case hw => kernel_rfl
        (go_simp; refine hK _ ?_; clear hK K)
        with_reducible refine wpStill_skip ?hw (fun K hK => ?_)
        case hw => kernel_rfl
        (go_simp; refine hK _ ?_; clear hK K)
        with_reducible refine wpStill_skip ?hw (fun K hK => ?_)
        case hw => kernel_rfl
        (go_simp; refine hK _ ?_; clear hK K)
        with_reducible refine wpStill_want ?hw (fun K hK => ?_)
        case hw => kernel_rfl
        (go_simp; refine hK _ ?_; clear hK K)
        with_reducible refine wpStill_want ?hw (fun K hK => ?_)
        case hw => kernel_rfl
        (go_simp; refine hK _ ?_; clear hK K)
        exact wpStill_nil rfl
      refine wpList_nil (OnlyNormal.mk ?_)
      have HB := Lib.hid (HB0.out.trans (hT.mono HB0.out.size))
      clear hT
      go_wp2_with fail
      go_quiet (fail)
      by_cases hlen : 133 < b5 + 256 * b6
      · have hlen' : (133 : Int) < (b5 : Int) + 256 * (b6 : Int) := by omega
        go_wp2_with fail
        go_ret3
        exact Ret.of (by rw [FALSE.out (by simp; intros; omega)]; rfl) (below_drewN HB.out _)
      · have hlen' : (b5 : Int) + 256 * (b6 : Int) ≤ 133 := by omega
        go_wp2_with fail
        have hw1 : IntKind.i64.wrap (7 + ((b5 : Int) + 256 * (b6 : Int))) = 7 + ((b5 : Int) + 256 * (b6 : Int)) := IntWalk.i64_in _ (by omega)
        have hw2 : (7 + ((b5 : Int) + 256 * (b6 : Int))).toNat = 7 + (b5 + 256 * b6) := by omega
        have hw3 : (7 : Int) ≤ 7 + ((b5 : Int) + 256 * (b6 : Int)) := by omega
        have hw4 : (0 : Int) ≤ 7 + ((b5 : Int) + 256 * (b6 : Int)) := by omega
        have hw5 : 7 + ((b5 : Int) + 256 * (b6 : Int)) ≤ (s.size : Int) := by have := HSZ.out; omega
        go_quiet (fail)
        go_wp2_with fail
        go_ret3
        exact Ret.of (by rw [TRUE.out (by simp; omega)]; rfl) (below_drewN (below_drewN HB.out _) _)

    · by_cases h99 : b0 = 99
      · subst h99
        apply wpStages_last
        case hT => exact hT
        case hn => exact Nat.le_refl _
        case hq =>
          intro w2 hT
          obtain ⟨l0, l1, l2, l3, l4⟩ := (LCELLS.out w2 hT)
          simp only [picked, List.filterMap_cons, List.filterMap_nil, List.getElem?_cons_zero, List.getElem?_cons_succ]
          with_reducible refine wpStill_want ?hw (fun K hK => ?_)
          case hw => kernel_rfl
          (go_simp; refine hK _ ?_; clear hK K)
          with_reducible refine wpStill_want ?hw (fun K hK => ?_)
          case hw => kernel_rfl
          (go_simp; refine hK _ ?_; clear hK K)
          with_reducible refine wpStill_want ?hw (fun K hK => ?_)
          case hw => kernel_rfl
          (go_simp; refine hK _ ?_; clear hK K)
          with_reducible refine wpStill_want ?hw (fun K hK => ?_)
          case hw => kernel_rfl
          (go_simp; refine hK _ ?_; clear hK K)
          with_reducible refine wpStill_want ?hw (fun K hK => ?_)
          case hw => kernel_rfl
          (go_simp; refine hK _ ?_; clear hK K)
          with_reducible refine wpStill_want ?hw (fun K hK => ?_)
          case hw => kernel_rfl
          (go_simp; refine hK _ ?_; clear hK K)
          with_reducible refine wpStill_want ?hw (fun K hK => ?_)
          case hw => kernel_rfl
          (go_simp; refine hK _ ?_; clear hK K)
          with_reducible refine wpStill_want ?hw (fun K hK => ?_)
          case hw => kernel_rfl
          (go_simp; refine hK _ ?_; clear hK K)
          with_reducible refine wpStill_want ?hw (fun K hK => ?_)
          case hw => kernel_rfl
          (go_simp; refine hK _ ?_; clear hK K)
          with_reducible refine wpStill_want ?hw (fun K hK => ?_)
          case hw => kernel_rfl
          (go_simp; refine hK _ ?_; clear hK K)
          with_reducible refine wpStill_want ?hw (fun K hK => ?_)
          case hw => kernel_rfl
          (go_simp; refine hK _ ?_; clear hK K)
          with_reducible refine wpStill_want ?hw (fun K hK => ?_)
          case hw => kernel_rfl
          (go_simp; refine hK _ ?_; clear hK K)
          exact wpStill_nil rfl
        refine wpList_nil (OnlyNormal.mk ?_)
        have HB := Lib.hid (HB0.out.trans (hT.mono HB0.out.size))
        clear hT
        go_wp2_with fail
        go_quiet (fail)
        by_cases hlen : 133 < b5 + 256 * b6
        · have hlen' : (133 : Int) < (b5 : Int) + 256 * (b6 : Int) := by omega
          go_wp2_with fail
          go_ret3
          exact Ret.of (by rw [FALSE.out (by simp; intros; omega)]; rfl) (below_drewN HB.out _)
        · have hlen' : (b5 : Int) + 256 * (b6 : Int) ≤ 133 := by omega
          go_wp2_with fail
          have hw1 : IntKind.i64.wrap (7 + ((b5 : Int) + 256 * (b6 : Int))) = 7 + ((b5 : Int) + 256 * (b6 : Int)) := IntWalk.i64_in _ (by omega)
          have hw2 : (7 + ((b5 : Int) + 256 * (b6 : Int))).toNat = 7 + (b5 + 256 * b6) := by omega
          have hw3 : (7 : Int) ≤ 7 + ((b5 : Int) + 256 * (b6 : Int)) := by omega
          have hw4 : (0 : Int) ≤ 7 + ((b5 : Int) + 256 * (b6 : Int)) := by omega
          have hw5 : 7 + ((b5 : Int) + 256 * (b6 : Int)) ≤ (s.size : Int) := by have := HSZ.out; omega
          go_quiet (fail)
          go_wp2_with fail
          go_ret3
          exact Ret.of (by rw [TRUE.out (by simp; omega)]; rfl) (below_drewN (below_drewN HB.out _) _)

      · have q1 : ((b0 : Int) == 111) = false := by simpa using (show ¬ (b0 : Int) = 111 by omega)
        have q2 : ((b0 : Int) == 99) = false := by simpa using (show ¬ (b0 : Int) = 99 by omega)
        have q5 : ((b0 : Int) != 111) = true := by rw [bne, q1]; rfl
        have q6 : ((b0 : Int) != 99) = true := by rw [bne, q2]; rfl
        have q3 : ¬ (b0 : Int) = 111 := by omega
        have q4 : ¬ (b0 : Int) = 99 := by omega
        apply wpStages_last
        case hT => exact hT
        case hn => exact Nat.le_refl _
        case hq =>
          intro w2 hT
          obtain ⟨l0, l1, l2, l3, l4⟩ := (LCELLS.out w2 hT)
          simp only [picked, List.filterMap_cons, List.filterMap_nil, List.getElem?_cons_zero, List.getElem?_cons_succ]
          with_reducible refine wpStill_want ?hw (fun K hK => ?_)
          case hw => kernel_rfl
          (go_simp; refine hK _ ?_; clear hK K)
          with_reducible refine wpStill_want ?hw (fun K hK => ?_)
          case hw => kernel_rfl
          (go_simp; refine hK _ ?_; clear hK K)
          with_reducible refine wpStill_want ?hw (fun K hK => ?_)
          case hw => kernel_rfl
          (go_simp; refine hK _ ?_; clear hK K)
          with_reducible refine wpStill_want ?hw (fun K hK => ?_)
          case hw => kernel_rfl
          (go_simp; refine hK _ ?_; clear hK K)
          with_reducible refine wpStill_want ?hw (fun K hK => ?_)
          case hw => kernel_rfl
          (go_simp; refine hK _ ?_; clear hK K)
          with_reducible refine wpStill_want ?hw (fun K hK => ?_)
          case hw => kernel_rfl
          (go_simp; refine hK _ ?_; clear hK K)
          with_reducible refine wpStill_want ?hw (fun K hK => ?_)
          case hw => kernel_rfl
          (go_simp; refine hK _ ?_; clear hK K)
          with_reducible refine wpStill_want ?hw (fun K hK => ?_)
          case hw => kernel_rfl
          (go_simp; refine hK _ ?_; clear hK K)
          with_reducible refine wpStill_want ?hw (fun K hK => ?_)
          case hw => kernel_rfl
          (go_simp; refine hK _ ?_; clear hK K)
          with_reducible refine wpStill_want ?hw (fun K hK => ?_)
          case hw => kernel_rfl
          (go_simp; refine hK _ ?_; clear hK K)
          with_reducible refine wpStill_want ?hw (fun K hK => ?_)
          case hw => kernel_rfl
          (go_simp; refine hK _ ?_; clear hK K)
          with_reducible refine wpStill_want ?hw (fun K hK => ?_)
          case hw => kernel_rfl
          (go_simp; refine hK _ ?_; clear hK K)
          exact wpStill_nil rfl
        refine wpList_nil (OnlyNormal.mk ?_)
        have HB := Lib.hid (HB0.out.trans (hT.mono HB0.out.size))
        clear hT
        go_wp2_with fail
        go_ret3
        exact Ret.of (by rw [FALSE.out (by simp [h111, h99])]; rfl) HB.out

end Go.Proofs.Ytkapmpngglibjaa
