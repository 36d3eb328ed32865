/- Several texts in one: what each begins with says what it shows. Conditions: each law's own premises. -/
import Derived.Test.YtkapmpngglibjaaQ14

/- A log on a disk, and a look at a sector. Conditions: each contract's own premises. -/
namespace Go.Proofs.Ytkapmpngglibjaa
open Go Go.RowKit
/-! ### a log, plain and in memory -/

structure LM where
  from_ : Nat
  many : Nat
  first : Nat
  next : Nat

/-- The log L on the disk at block db, a struct at block b. -/
def LogAt (w : World) (b db : Nat) (L : LM) : Prop :=
  w.heap[b]? = some (.cells #[.pointer (some ⟨db, 0, none⟩), .int .i64 (L.from_ : Int), .int .i64 (L.many : Int), .int .i64 (L.first : Int), .int .i64 (L.next : Int)] 137 (0, 0))

theorem LogAt.cells {w : World} {b db : Nat} {L : LM} (h : LogAt w b db L) : w.cell? ⟨b, 0, none⟩ = some (.pointer (some ⟨db, 0, none⟩)) ∧ w.cell? ⟨b, 1, none⟩ = some (.int .i64 (L.from_ : Int)) ∧
    w.cell? ⟨b, 2, none⟩ = some (.int .i64 (L.many : Int)) ∧ w.cell? ⟨b, 3, none⟩ = some (.int .i64 (L.first : Int)) ∧ w.cell? ⟨b, 4, none⟩ = some (.int .i64 (L.next : Int)) :=
  ⟨cell_of h 0, cell_of h 1, cell_of h 2, cell_of h 3, cell_of h 4⟩

theorem Frame.drewN {X : List Nat} {a w : World} (h : Frame X a w) (n : Nat) : Frame X a (w.drewN n) := ⟨h.os, h.tape, h.output, h.size, h.block⟩
theorem DiskAt.drewN {w : World} {T tw b : Nat} {X : List Nat} {D : DM} (h : DiskAt w T tw b X D) (n : Nat) : DiskAt (w.drewN n) T tw b X D :=
  h.frame (Y := []) ((Frame.refl [] w).drewN n) (by simp)

theorem read_ok (b : Nat) (X : List Nat) (D : DM) (p : Nat) (s : ByteArray) (w : World) (hD : DiskAt w 107 111 b X D) (hd : D.down = false) (hs : D.now[p]? = some s) :
    Calls Try.prog 19 #[.pointer (some ⟨b, 0, none⟩), .int .i64 (p : Int)] w fun e w' => e = .returned (.tuple #[.string s, .nilIface]) ∧ w' = w := by
  refine (read_any b X D p w hD).mono ?_
  rintro e w' ⟨rfl, rfl⟩
  have hlt := (List.getElem?_eq_some_iff.1 hs).1
  refine ⟨?_, rfl⟩
  have h1 : D.read (p : Int) = (s, 0) := by
    rw [DM.read, hd, if_neg (by simp), if_neg (by omega)]
    simp [List.getD, hs]
  rw [h1]
  rfl

/-- What a sector says that should have the number n: its kind, and what it has; false: it is none of the log. -/
def lookOf (s : ByteArray) (n : Nat) : Nat × ByteArray × Bool :=
  if (s.extract 1 5).toList == (fourB n).toList && (byteAt s 0 == 111 || byteAt s 0 == 99) && decide (byteAt s 5 + 256 * byteAt s 6 ≤ 133) then
    (byteAt s 0, s.extract 7 (7 + (byteAt s 5 + 256 * byteAt s 6)), true)
  else (0, ⟨#[]⟩, false)
def lookV (r : Nat × ByteArray × Bool) : Value := .tuple #[.int .u8 (r.1 : Int), .string r.2.1, .bool r.2.2]

set_option maxHeartbeats 4000000 in
set_option maxRecDepth 100000 in
theorem look_any (b db : Nat) (X : List Nat) (D : DM) (L : LM) (i : Nat) (s : ByteArray) (w : World) (hD : DiskAt w 107 111 db X D) (hL : LogAt w b db L) (hd : D.down = false)
    (hs : D.now[L.from_ + i]? = some s) (hsz : s.size = 140) (hn : L.first + i < 2147483648) :
    Calls Try.prog 82 #[.pointer (some ⟨b, 0, none⟩), .int .i64 (i : Int)] w (Ret (lookV (lookOf s (L.first + i))) fun w' => Below w.heap.size w w') := by
  obtain ⟨l0, l1, l2, l3, l4⟩ := hL.cells
  obtain ⟨fr, many, first, next⟩ := L
  simp only at *
  have hlt := (List.getElem?_eq_some_iff.1 hs).1
  have hmost := hD.ok.most
  have hrd := fun m => Calls.quiet_of_same (n := m) (read_ok db X D (fr + i) s (w.drewN m) (hD.drewN m) hd hs)
  have HRD := Lib.hid hrd
  have i0 : (0 : Int) ≤ (i : Int) := by omega
  have i1 : (i : Int) ≤ 130 := by omega
  have f0 : (0 : Int) ≤ (fr : Int) := by omega
  have f1 : (fr : Int) ≤ 130 := by omega
  have g0 : (0 : Int) ≤ (first : Int) := by omega
  have g1 : (first : Int) + (i : Int) < 2147483648 := by omega
  have hwr : IntKind.i64.wrap ((fr : Int) + (i : Int)) = ((fr + i : Nat) : Int) := by rw [IntWalk.i64_in _ (by omega)]; omega
  have HSZ := Lib.hid hsz
  have HD := Lib.hid hD
  have HL := Lib.hid hL
  clear hrd hsz hs hD hL hmost hlt hn
  go_enter Try.func82, Try.ntmps82
  go_wp2_with fail
  go_quiet ((go_at_call 19; exact HRD.out _))
  clear hwr
  have s1 : (1 : Int) ≤ (s.size : Int) := by have := HSZ.out; omega
  have s5 : (5 : Int) ≤ (s.size : Int) := by have := HSZ.out; omega
  have s6 : (6 : Int) < (s.size : Int) := by have := HSZ.out; omega
  have t0 : 0 < s.size := by have := HSZ.out; omega
  have t5 : 5 < s.size := by have := HSZ.out; omega
  have t6 : 6 < s.size := by have := HSZ.out; omega
  have x0 := byteAt_eq s 0 (by have := HSZ.out; omega)
  have x5 := byteAt_eq s 5 (by have := HSZ.out; omega)
  have x6 := byteAt_eq s 6 (by have := HSZ.out; omega)
  have m0 := byteAt_lt s 0
  have m5 := byteAt_lt s 5
  have m6 := byteAt_lt s 6
  have FALSE := Lib.hid (fun (h : ((s.extract 1 5).toList == (fourB (first + i)).toList && (byteAt s 0 == 111 || byteAt s 0 == 99) && decide (byteAt s 5 + 256 * byteAt s 6 ≤ 133)) = false) =>
    (show lookOf s (first + i) = (0, ⟨#[]⟩, false) by rw [lookOf, h]; rfl))
  have TRUE := Lib.hid (fun (h : ((s.extract 1 5).toList == (fourB (first + i)).toList && (byteAt s 0 == 111 || byteAt s 0 == 99) && decide (byteAt s 5 + 256 * byteAt s 6 ≤ 133)) = true) =>
    (show lookOf s (first + i) = (byteAt s 0, s.extract 7 (7 + (byteAt s 5 + 256 * byteAt s 6)), true) by rw [lookOf, h]; rfl))
  generalize byteAt s 0 = b0 at *
  generalize byteAt s 5 = b5 at *
  generalize byteAt s 6 = b6 at *
  have b00 : (0 : Int) ≤ (b0 : Int) := by omega
  have b01 : (b0 : Int) ≤ 255 := by omega
  have b50 : (0 : Int) ≤ (b5 : Int) := by omega
  have b51 : (b5 : Int) ≤ 255 := by omega
  have b60 : (0 : Int) ≤ (b6 : Int) := by omega
  have b61 : (b6 : Int) ≤ 255 := by omega
  have HB0 := Lib.hid (below_drewN (Below.refl w.heap.size w) nq)
  have LCELLS := Lib.hid (fun w2 (hT : Below (w.drewN nq).heap.size (w.drewN nq) w2) => LogAt.cells (L := ⟨fr, many, first, next⟩) (w := w2) ((hT.block _ (lt_of_heap (show (w.drewN nq).heap[b]? = _ from HL.out))).trans HL.out))
  clear l0 l1 l2 l3 l4 m0 m5 m6
  generalize w.drewN nq = wq at HB0 LCELLS ⊢
  have hw1 : IntKind.i64.wrap ((first : Int) + (i : Int)) = ((first + i : Nat) : Int) := by rw [IntWalk.i64_in _ (by omega)]; omega
  go_wp2_with fail
  refine wp_region_plan (fun w2 => Below wq.heap.size wq w2) 64 [([0, 1, 2, 3, 4, 5, 6, 7, 8, 9, 10], [11], true), ([12, 13, 14, 15, 16, 17, 18, 19, 20, 21, 22, 23], [], false)] (by kernel_rfl) (by kernel_rfl) ?_
  apply wpStages_keep
  case hT => exact (Below.refl _ _).drew
  case hn => exact Nat.le_refl _
  case hq =>
    intro w2 hT
    obtain ⟨l0, l1, l2, l3, l4⟩ := (LCELLS.out w2 hT)
    simp only [picked, List.filterMap_cons, List.filterMap_nil, List.getElem?_cons_zero, List.getElem?_cons_succ]
    with_reducible refine wpStill_want ?hw (fun K hK => ?_)
    case hw => kernel_rfl
    (go_simp; refine hK _ ?_; clear hK K)
    with_reducible refine wpStill_want ?hw (fun K hK => ?_)
    case hw => kernel_rfl
    (go_simp; refine hK _ ?_; clear hK K)
    with_reducible refine wpStill_want ?hw (fun K hK => ?_)
    case hw => kernel_rfl
    (go_simp; refine hK _ ?_; clear hK K)
    with_reducible refine wpStill_want ?hw (fun K hK => ?_)
    case hw => kernel_rfl
    (go_simp; refine hK _ ?_; clear hK K)
    with_reducible refine wpStill_want ?hw (fun K hK => ?_)
    case hw => kernel_rfl
    (go_simp; refine hK _ ?_; clear hK K)
    with_reducible refine wpStill_want ?hw (fun K hK => ?_)
    case hw => kernel_rfl
    (go_simp; refine hK _ ?_; clear hK K)
    with_reducible refine wpStill_want ?hw (fun K hK => ?_)
    case hw => kernel_rfl
    (go_simp; refine hK _ ?_; clear hK K)
    with_reducible refine wpStill_want ?hw (fun K hK => ?_)
    case hw => kernel_rfl
    (go_simp; refine hK _ ?_; clear hK K)
    with_reducible refine wpStill_want ?hw (fun K hK => ?_)
    case hw => kernel_rfl
    (go_simp; refine hK _ ?_; clear hK K)
    with_reducible refine wpStill_want ?hw (fun K hK => ?_)
    case hw => kernel_rfl
    (go_simp; refine hK _ ?_; clear hK K)
    with_reducible refine wpStill_want ?hw (fun K hK => ?_)
    case hw => kernel_rfl
    (go_simp; refine hK _ ?_; clear hK K)
    exact wpStill_nil rfl
  simp only [picked, List.filterMap_cons, List.filterMap_nil, List.getElem?_cons_zero, List.getElem?_cons_succ]
  clear hw1
  go_wp2_with fail
  refine (four_any (first + i) _ (by omega)).mono ?_
  clear g1
  rintro e w3 ⟨rfl, hB3⟩
  have hT : Below wq.heap.size wq w3 := (Below.refl _ _).drew.trans hB3
  clear hB3
  go_wp2_with fail
  refine OnlyNormal.mk ⟨hT, ?_⟩
  cases hE : ((s.extract 1 5).toList == (fourB (first + i)).toList)
  · rw [hE] at FALSE TRUE
    apply wpStages_last
    case hT => exact hT
    case hn => exact Nat.le_refl _
    case hq =>
      intro w2 hT
      obtain ⟨l0, l1, l2, l3, l4⟩ := (LCELLS.out w2 hT)
      simp only [picked, List.filterMap_cons, List.filterMap_nil, List.getElem?_cons_zero, List.getElem?_cons_succ]
      with_reducible refine wpStill_want ?hw (fun K hK => ?_)
      case hw => kernel_rfl
      (go_simp; refine hK _ ?_; clear hK K)
      with_reducible refine wpStill_want ?hw (fun K hK => ?_)
      case hw => kernel_rfl
      (go_simp; refine hK _ ?_; clear hK K)
      with_reducible refine wpStill_want ?hw (fun K hK => ?_)
      case hw => kernel_rfl
      (go_simp; refine hK _ ?_; clear hK K)
      with_reducible refine wpStill_skip ?hw (fun K hK => ?_)
      case hw => kernel_rfl
      (go_simp; refine hK _ ?_; clear hK K)
      with_reducible refine wpStill_skip ?hw (fun K hK => ?_)
      case hw => kernel_rfl
      (go_simp; refine hK _ ?_; clear hK K)
      with_reducible refine wpStill_skip ?hw (fun K hK => ?_)
      case hw => kernel_rfl
      (go_simp; refine hK _ ?_; clear hK K)
      with_reducible refine wpStill_skip ?hw (fun K hK => ?_)
      case hw => kernel_rfl
      (go_simp; refine hK _ ?_; clear hK K)
      with_reducible refine wpStill_skip ?hw (fun K hK => ?_)
      case hw => kernel_rfl
      (go_simp; refine hK _ ?_; clear hK K)
      with_reducible refine wpStill_skip ?hw (fun K hK => ?_)
      case hw => kernel_rfl
      (go_simp; refine hK _ ?_; clear hK K)
      with_reducible refine wpStill_skip ?hw (fun K hK => ?_)
      case hw => kernel_rfl
      (go_simp; refine hK _ ?_; clear hK K)
      with_reducible refine wpStill_skip ?hw (fun K hK => ?_)
      case hw => kernel_rfl
      (go_simp; refine hK _ ?_; clear hK K)
      with_reducible refine wpStill_want ?hw (fun K hK => ?_)
      case hw => kernel_rfl
      (go_simp; refine hK _ ?_; clear hK K)
      exact wpStill_nil rfl
    refine wpList_nil (OnlyNormal.mk ?_)
    have HB := Lib.hid (HB0.out.trans (hT.mono HB0.out.size))
    clear hT
    go_wp2_with fail
    go_ret3
    exact Ret.of (by rw [FALSE.out (by simp)]; rfl) HB.out

  · rw [hE] at FALSE TRUE
    by_cases h111 : b0 = 111
    · subst h111
      apply wpStages_last
      case hT => exact hT
      case hn => exact Nat.le_refl _
      case hq =>
        intro w2 hT
        obtain ⟨l0, l1, l2, l3, l4⟩ := (LCELLS.out w2 hT)
        simp only [picked, List.filterMap_cons, List.filterMap_nil, List.getElem?_cons_zero, List.getElem?_cons_succ]
        with_reducible refine wpStill_want ?hw (fun K hK => ?_)
        case hw => kernel_rfl
        (go_simp; refine hK _ ?_; clear hK K)
        with_reducible refine wpStill_want ?hw (fun K hK => ?_)
        case hw => kernel_rfl
        (go_simp; refine hK _ ?_; clear hK K)
        with_reducible refine wpStill_want ?hw (fun K hK => ?_)
        case hw => kernel_rfl
        (go_simp; refine hK _ ?_; clear hK K)
        with_reducible refine wpStill_want ?hw (fun K hK => ?_)
        case hw => kernel_rfl
        (go_simp; refine hK _ ?_; clear hK K)
        with_reducible refine wpStill_want ?hw (fun K hK => ?_)
        case hw => kernel_rfl
        (go_simp; refine hK _ ?_; clear hK K)
        with_reducible refine wpStill_want ?hw (fun K hK => ?_)
        case hw => kernel_rfl
        (go_simp; refine hK _ ?_; clear hK K)
        with_reducible refine wpStill_want ?hw (fun K hK => ?_)
        case hw => kernel_rfl
        (go_simp; refine hK _ ?_; clear hK K)
        with_reducible refine wpStill_skip ?hw (fun K hK => ?_)
        case hw => kernel_rfl
        (go_simp; refine hK _ ?_; clear hK K)
        with_reducible refine wpStill_skip ?hw (fun K hK => ?_)
        case hw => kernel_rfl
        (go_simp; refine hK _ ?_; clear hK K)
        with_reducible refine wpStill_skip ?hw (fun K hK => ?_)
        case hw => kernel_rfl
        (go_simp; refine hK _ ?_; clear hK K)
        with_reducible refine wpStill_want ?hw (fun K hK => ?_)
        case hw => kernel_rfl
        (go_simp; refine hK _ ?_; clear hK K)
        with_reducible refine wpStill_want ?hw (fun K hK => ?_)
        case hw => kernel_rfl
        (go_simp; refine hK _ ?_; clear hK K)
        exact wpStill_nil rfl
      refine wpList_nil (OnlyNormal.mk ?_)
      have HB := Lib.hid (HB0.out.trans (hT.mono HB0.out.size))
      clear hT
      go_wp2_with fail
      go_quiet (fail)
      by_cases hlen : 133 < b5 + 256 * b6
      · have hlen' : (133 : Int) < (b5 : Int) + 256 * (b6 : Int) := by omega
        go_wp2_with fail
        go_ret3
        exact Ret.of (by rw [FALSE.out (by simp; intros; omega)]; rfl) (below_drewN HB.out _)
      · have hlen' : (b5 : Int) + 256 * (b6 : Int) ≤ 133 := by omega
        go_wp2_with fail
        have hw1 : IntKind.i64.wrap (7 + ((b5 : Int) + 256 * (b6 : Int))) = 7 + ((b5 : Int) + 256 * (b6 : Int)) := IntWalk.i64_in _ (by omega)
        have hw2 : (7 + ((b5 : Int) + 256 * (b6 : Int))).toNat = 7 + (b5 + 256 * b6) := by omega
        have hw3 : (7 : Int) ≤ 7 + ((b5 : Int) + 256 * (b6 : Int)) := by omega
        have hw4 : (0 : Int) ≤ 7 + ((b5 : Int) + 256 * (b6 : Int)) := by omega
        have hw5 : 7 + ((b5 : Int) + 256 * (b6 : Int)) ≤ (s.size : Int) := by have := HSZ.out; omega
        go_quiet (fail)
        go_wp2_with fail
        go_ret3
        exact Ret.of (by rw [TRUE.out (by simp; omega)]; rfl) (below_drewN (below_drewN HB.out _) _)

    · by_cases h99 : b0 = 99
      · subst h99
        apply wpStages_last
        case hT => exact hT
        case hn => exact Nat.le_refl _
        case hq =>
          intro w2 hT
          obtain ⟨l0, l1, l2, l3, l4⟩ := (LCELLS.out w2 hT)
          simp only [picked, List.filterMap_cons, List.filterMap_nil, List.getElem?_cons_zero, List.getElem?_cons_succ]
          with_reducible refine wpStill_want ?hw (fun K hK => ?_)
          case hw => kernel_rfl
          (go_simp; refine hK _ ?_; clear hK K)
          with_reducible refine wpStill_want ?hw (fun K hK => ?_)
          case hw => kernel_rfl
          (go_simp; refine hK _ ?_; clear hK K)
          with_reducible refine wpStill_want ?hw (fun K hK => ?_)
          case hw => kernel_rfl
          (go_simp; refine hK _ ?_; clear hK K)
          with_reducible refine wpStill_want ?hw (fun K hK => ?_)
          case hw => kernel_rfl
          (go_simp; refine hK _ ?_; clear hK K)
          with_reducible refine wpStill_want ?hw (fun K hK => ?_)
          case hw => kernel_rfl
          (go_simp; refine hK _ ?_; clear hK K)
          with_reducible refine wpStill_want ?hw (fun K hK => ?_)
          case hw => kernel_rfl
          (go_simp; refine hK _ ?_; clear hK K)
          with_reducible refine wpStill_want ?hw (fun K hK => ?_)
          case hw => kernel_rfl
          (go_simp; refine hK _ ?_; clear hK K)
          with_reducible refine wpStill_want ?hw (fun K hK => ?_)
          case hw => kernel_rfl
          (go_simp; refine hK _ ?_; clear hK K)
          with_reducible refine wpStill_want ?hw (fun K hK => ?_)
          case hw => kernel_rfl
          (go_simp; refine hK _ ?_; clear hK K)
          with_reducible refine wpStill_want ?hw (fun K hK => ?_)
          case hw => kernel_rfl
          (go_simp; refine hK _ ?_; clear hK K)
          with_reducible refine wpStill_want ?hw (fun K hK => ?_)
          case hw => kernel_rfl
          (go_simp; refine hK _ ?_; clear hK K)
          with_reducible refine wpStill_want ?hw (fun K hK => ?_)
          case hw => kernel_rfl
          (go_simp; refine hK _ ?_; clear hK K)
          exact wpStill_nil rfl
        refine wpList_nil (OnlyNormal.mk ?_)
        have HB := Lib.hid (HB0.out.trans (hT.mono HB0.out.size))
        clear hT
        go_wp2_with fail
        go_quiet (fail)
        by_cases hlen : 133 < b5 + 256 * b6
        · have hlen' : (133 : Int) < (b5 : Int) + 256 * (b6 : Int) := by omega
          go_wp2_with fail
          go_ret3
          exact Ret.of (by rw [FALSE.out (by simp; intros; omega)]; rfl) (below_drewN HB.out _)
        · have hlen' : (b5 : Int) + 256 * (b6 : Int) ≤ 133 := by omega
          go_wp2_with fail
          have hw1 : IntKind.i64.wrap (7 + ((b5 : Int) + 256 * (b6 : Int))) = 7 + ((b5 : Int) + 256 * (b6 : Int)) := IntWalk.i64_in _ (by omega)
          have hw2 : (7 + ((b5 : Int) + 256 * (b6 : Int))).toNat = 7 + (b5 + 256 * b6) := by omega
          have hw3 : (7 : Int) ≤ 7 + ((b5 : Int) + 256 * (b6 : Int)) := by omega
          have hw4 : (0 : Int) ≤ 7 + ((b5 : Int) + 256 * (b6 : Int)) := by omega
          have hw5 : 7 + ((b5 : Int) + 256 * (b6 : Int)) ≤ (s.size : Int) := by have := HSZ.out; omega
          go_quiet (fail)
          go_wp2_with fail
          go_ret3
          exact Ret.of (by rw [TRUE.out (by simp; omega)]; rfl) (below_drewN (below_drewN HB.out _) _)

      · have q1 : ((b0 : Int) == 111) = false := by simpa using (show ¬ (b0 : Int) = 111 by omega)
        have q2 : ((b0 : Int) == 99) = false := by simpa using (show ¬ (b0 : Int) = 99 by omega)
        have q5 : ((b0 : Int) != 111) = true := by rw [bne, q1]; rfl
        have q6 : ((b0 : Int) != 99) = true := by rw [bne, q2]; rfl
        have q3 : ¬ (b0 : Int) = 111 := by omega
        have q4 : ¬ (b0 : Int) = 99 := by omega
        apply wpStages_last
        case hT => exact hT
        case hn => exact Nat.le_refl _
        case hq =>
          intro w2 hT
          obtain ⟨l0, l1, l2, l3, l4⟩ := (LCELLS.out w2 hT)
          simp only [picked, List.filterMap_cons, List.filterMap_nil, List.getElem?_cons_zero, List.getElem?_cons_succ]
          with_reducible refine wpStill_want ?hw (fun K hK => ?_)
          case hw => kernel_rfl
          (go_simp; refine hK _ ?_; clear hK K)
          with_reducible refine wpStill_want ?hw (fun K hK => ?_)
          case hw => kernel_rfl
          (go_simp; refine hK _ ?_; clear hK K)
          with_reducible refine wpStill_want ?hw (fun K hK => ?_)
          case hw => kernel_rfl
          (go_simp; refine hK _ ?_; clear hK K)
          with_reducible refine wpStill_want ?hw (fun K hK => ?_)
          case hw => kernel_rfl
          (go_simp; refine hK _ ?_; clear hK K)
          with_reducible refine wpStill_want ?hw (fun K hK => ?_)
          case hw => kernel_rfl
          (go_simp; refine hK _ ?_; clear hK K)
          with_reducible refine wpStill_want ?hw (fun K hK => ?_)
          case hw => kernel_rfl
          (go_simp; refine hK _ ?_; clear hK K)
          with_reducible refine wpStill_want ?hw (fun K hK => ?_)
          case hw => kernel_rfl
          (go_simp; refine hK _ ?_; clear hK K)
          with_reducible refine wpStill_want ?hw (fun K hK => ?_)
          case hw => kernel_rfl
          (go_simp; refine hK _ ?_; clear hK K)
          with_reducible refine wpStill_want ?hw (fun K hK => ?_)
          case hw => kernel_rfl
          (go_simp; refine hK _ ?_; clear hK K)
          with_reducible refine wpStill_want ?hw (fun K hK => ?_)
          case hw => kernel_rfl
          (go_simp; refine hK _ ?_; clear hK K)
          with_reducible refine wpStill_want ?hw (fun K hK => ?_)
          case hw => kernel_rfl
          (go_simp; refine hK _ ?_; clear hK K)
          with_reducible refine wpStill_want ?hw (fun K hK => ?_)
          case hw => kernel_rfl
          (go_simp; refine hK _ ?_; clear hK K)
          exact wpStill_nil rfl
        refine wpList_nil (OnlyNormal.mk ?_)
        have HB := Lib.hid (HB0.out.trans (hT.mono HB0.out.size))
        clear hT
        go_wp2_with fail
        go_ret3
        exact Ret.of (by rw [FALSE.out (by simp [h111, h99])]; rfl) HB.out

end Go.Proofs.Ytkapmpngglibjaa

/- Deeds in memory, and what a log says: plain. No condition beyond each law's own. -/
namespace Go.Proofs.Ytkapmpngglibjaa
open Go Go.RowKit

/-! ### deeds: lists of lists of changes, in blocks of which S holds -/

def ChgP (S : Nat → Prop) (w : World) (u : Value) (d : List Chg) : Prop :=
  ∃ ao cap, u = .slice ao d.length cap ∧ d.length ≤ maxLen ∧ ∀ (i : Nat) (c : Chg), d[i]? = some c → ∃ b off, ao = some ⟨b, off, none⟩ ∧ S b ∧
    w.cell? ⟨b, off + i * 3, none⟩ = some (.string c.key) ∧ w.cell? ⟨b, off + i * 3 + 1, none⟩ = some (.string c.val) ∧ w.cell? ⟨b, off + i * 3 + 2, none⟩ = some (.bool c.gone)

theorem ChgP.at {S : Nat → Prop} {w : World} {u : Value} {d : List Chg} (h : ChgP S w u d) : ChangesAt w u d := by
  obtain ⟨ao, cap, rfl, hm, hr⟩ := h
  refine ⟨ao, cap, by rw [List.length_map], by rw [List.length_map]; exact hm, fun i r hi => ?_⟩
  rw [List.getElem?_map, Option.map_eq_some_iff] at hi
  obtain ⟨c, hc, rfl⟩ := hi
  obtain ⟨b, off, rfl, -, h0, h1, h2⟩ := hr i c hc
  refine ⟨b, off, rfl, fun j u hu => ?_⟩
  match j, hu with
  | 0, hu => cases hu; exact h0
  | 1, hu => cases hu; exact h1
  | 2, hu => cases hu; exact h2

theorem ChgP.of_at {w : World} {u : Value} {d : List Chg} (h : ChangesAt w u d) : ChgP (fun _ => True) w u d := by
  have hm : d.length ≤ maxLen := by
    obtain ⟨ao, cap, rfl, hm, hr⟩ := h
    simpa using hm
  obtain ⟨ao, cap, rfl, hr⟩ := h.form
  exact ⟨ao, cap, rfl, hm, fun i c hc => by
    obtain ⟨b, off, h1, h2⟩ := hr i c hc
    exact ⟨b, off, h1, trivial, h2⟩⟩

/-- S may be had from what is known of the blocks that there are. -/
theorem ChgP.mono {S S' : Nat → Prop} {w : World} {u : Value} {d : List Chg} (h : ChgP S w u d) (hS : ∀ k, k < w.heap.size → S k → S' k) : ChgP S' w u d := by
  obtain ⟨ao, cap, rfl, hm, hr⟩ := h
  exact ⟨ao, cap, rfl, hm, fun i c hc => by
    obtain ⟨b, off, h1, h2, h3, h4⟩ := hr i c hc
    exact ⟨b, off, h1, hS b (World.block_lt_of_cell? w _ h3) h2, h3, h4⟩⟩

theorem ChgP.frame {S : Nat → Prop} {X : List Nat} {w w' : World} {u : Value} {d : List Chg} (h : ChgP S w u d) (hf : Frame X w w') (hX : ∀ k, S k → k ∉ X) : ChgP S w' u d := by
  obtain ⟨ao, cap, rfl, hm, hr⟩ := h
  exact ⟨ao, cap, rfl, hm, fun i c hc => by
    obtain ⟨b, off, h1, h2, h3, h4, h5⟩ := hr i c hc
    exact ⟨b, off, h1, h2, hf.cell h3 (hX b h2), hf.cell h4 (hX b h2), hf.cell h5 (hX b h2)⟩⟩

theorem ChgP.of_owns {w : World} {base : Nat} {u : Value} {d : List Chg} (h : w.ownsRow base 64 3 u d.length (flC d)) : ChgP (fun k => u.ownBlock = some k) w u d := by
  have hat : ChangesAt w u d := SliceAt.of_owns (cells_len d) (by rw [List.length_map]; exact h)
  obtain ⟨ao, cap, rfl, hm, hr⟩ := ChgP.of_at hat
  refine ⟨ao, cap, rfl, hm, fun i c hc => ?_⟩
  obtain ⟨b, off, rfl, -, h2⟩ := hr i c hc
  have : off = 0 ∧ (Value.slice (some ⟨b, off, none⟩) d.length cap).ownBlock = some b := by
    refine ⟨?_, by simp [Value.ownBlock]⟩
    rcases h.2 with ⟨h3, _⟩ | ⟨g, cap', cur, h3, -⟩
    · cases h3
    · cases h3; rfl
  exact ⟨b, off, rfl, this.2, h2⟩

/-- A slice of slices of changes. -/
def DeedsP (S : Nat → Prop) (w : World) (v : Value) (ds : List (List Chg)) : Prop :=
  ∃ ao cap, ∃ vs : List Value, v = .slice ao ds.length cap ∧ ds.length ≤ maxLen ∧ vs.length = ds.length ∧ (∀ (i : Nat) (u : Value), vs[i]? = some u → ∃ b off, ao = some ⟨b, off, none⟩ ∧ S b ∧ w.cell? ⟨b, off + i, none⟩ = some u) ∧
    ∀ (i : Nat) (u : Value) (d : List Chg), vs[i]? = some u → ds[i]? = some d → ChgP S w u d

theorem DeedsP.mono {S S' : Nat → Prop} {w : World} {v : Value} {ds : List (List Chg)} (h : DeedsP S w v ds) (hS : ∀ k, k < w.heap.size → S k → S' k) : DeedsP S' w v ds := by
  obtain ⟨ao, cap, vs, rfl, hm, hl, hc, hr⟩ := h
  exact ⟨ao, cap, vs, rfl, hm, hl, fun i u hu => by
    obtain ⟨b, off, h1, h2, h3⟩ := hc i u hu
    exact ⟨b, off, h1, hS b (World.block_lt_of_cell? w _ h3) h2, h3⟩, fun i u d hu hd => (hr i u d hu hd).mono hS⟩

theorem DeedsP.frame {S : Nat → Prop} {X : List Nat} {w w' : World} {v : Value} {ds : List (List Chg)} (h : DeedsP S w v ds) (hf : Frame X w w') (hX : ∀ k, S k → k ∉ X) : DeedsP S w' v ds := by
  obtain ⟨ao, cap, vs, rfl, hm, hl, hc, hr⟩ := h
  exact ⟨ao, cap, vs, rfl, hm, hl, fun i u hu => by
    obtain ⟨b, off, h1, h2, h3⟩ := hc i u hu
    exact ⟨b, off, h1, h2, hf.cell h3 (hX b h2)⟩, fun i u d hu hd => (hr i u d hu hd).frame hf hX⟩

theorem DeedsP.nil (S : Nat → Prop) (w : World) : DeedsP S w (.slice none 0 0) [] :=
  ⟨none, 0, [], rfl, by simp [maxLen], rfl, fun i u h => by simp at h, fun i u d h => by simp at h⟩

/-- Slices that are owned, each of which holds owned changes. -/
theorem DeedsP.of_owns {w : World} {base B : Nat} {v : Value} {ds : List (List Chg)} {vs : List Value} (h : w.ownsRow base 36 1 v ds.length vs) (hl : vs.length = ds.length) (hB : B ≤ base)
    (hr : ∀ (i : Nat) (u : Value) (d : List Chg), vs[i]? = some u → ds[i]? = some d → w.ownsRow B 64 3 u d.length (flC d)) : DeedsP (fun k => B ≤ k) w v ds := by
  have hel : ∀ (i : Nat) (u : Value) (d : List Chg), vs[i]? = some u → ds[i]? = some d → ChgP (fun k => B ≤ k) w u d := fun i u d hu hd => by
    have h1 := hr i u d hu hd
    exact (ChgP.of_owns h1).mono fun k _ hk => (World.ownsRow.lt h1 k hk).1
  rcases h.2 with ⟨rfl, h0⟩ | ⟨g, cap, cur, rfl, hb, hg, h1, h2, h3, h4⟩
  · have : ds = [] := List.eq_nil_of_length_eq_zero h0
    subst this
    exact DeedsP.nil _ _
  · refine ⟨some ⟨g, 0, none⟩, cap, vs, rfl, Nat.le_trans h1 h2, hl, fun i u hu => ⟨g, 0, rfl, Nat.le_trans hB hb, ?_⟩, hel⟩
    rw [Nat.zero_add, cell_of hg, ← Array.getElem?_toList]
    exact getElem_of_take h4 _ _ hu

/-! ### what a log says, plain -/

/-- From the i-th sector on, with a deed that is open, the deeds that are closed, and how many sectors these take. -/
def scan (first : Nat) : Nat → List ByteArray → List Chg → List (List Chg) → Nat → List (List Chg) × Nat
  | _, [], _, out, nx => (out, nx)
  | i, s :: l, deed, out, nx =>
    if (lookOf s (first + i)).2.2 then
      if (lookOf s (first + i)).1 == 99 then
        if (lookOf s (first + i)).2.1.toList == (fourB deed.length).toList then scan first (i + 1) l [] (out ++ [deed]) (i + 1) else (out, nx)
      else if (parseOf (lookOf s (first + i)).2.1).2 = 0 then scan first (i + 1) l (deed ++ [(parseOf (lookOf s (first + i)).2.1).1]) out nx else (out, nx)
    else (out, nx)

/-- The sectors of a log. -/
def secs (D : DM) (from_ many : Nat) : List ByteArray := (D.now.drop from_).take many

end Go.Proofs.Ytkapmpngglibjaa
