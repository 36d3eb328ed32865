/- Several texts in one: what each begins with says what it shows. Conditions: each law's own premises. -/
import Derived.Test.YtkapmpngglibjaaQ16

/- Log.Add. Conditions: each contract's own premises. -/
namespace Go.Proofs.Ytkapmpngglibjaa
open Go Go.RowKit

def firstFault : List Chg → Nat
  | [] => 0
  | c :: l => if faultOf c = 0 then firstFault l else faultOf c

/-- The j-th step of adding a deed. -/
def addStep (L : LM) (l : List Chg) (D : DM) : Nat → Nat × DM
  | 0 => layL L D l
  | 1 => D.flush
  | 2 => closeD L l.length D
  | _ => D.flush
def addRun (L : LM) (l : List Chg) : DM → List Nat → Nat × DM
  | D, [] => (0, D)
  | D, j :: js => if (addStep L l D j).1 = 0 then addRun L l (addStep L l D j).2 js else addStep L l D j

/-- A deed is added: the error, the disk, the log. -/
def addL (L : LM) (D : DM) (l : List Chg) : Nat × DM × LM :=
  if 12 < l.length then (2, D, L) else if L.many < L.next + (l.length + 1) then (9, D, L) else if firstFault l ≠ 0 then (firstFault l, D, L) else
  ((addRun L l D [0, 1, 2, 3]).1, (addRun L l D [0, 1, 2, 3]).2, if (addRun L l D [0, 1, 2, 3]).1 = 0 then { L with next := L.next + l.length + 1 } else L)

def AddRes (w : World) (b db : Nat) (X : List Nat) (D : DM) (L : LM) (w' : World) : Prop := ∃ Y, DiskAt w' 107 111 db Y D ∧ LogAt w' b db L ∧ Frame (b :: X) w w' ∧ Fresh w X Y

theorem firstFault_zero : ∀ (l : List Chg), firstFault l = 0 → ∀ c ∈ l, faultOf c = 0
  | [], _, _, h => by cases h
  | c :: l, h, x, hx => by
    unfold firstFault at h
    split at h
    · rename_i h0
      rcases List.mem_cons.1 hx with rfl | hx
      · exact h0
      · exact firstFault_zero l h x hx
    · rename_i h0; exact absurd h h0

theorem DM.flush_wait (D : DM) : D.flush.2.wait.length ≤ D.wait.length := by
  unfold DM.flush
  split
  · simp
  · rw [D.step_now.2.1]; exact Nat.le_refl _

theorem addStep_wait (L : LM) (l : List Chg) (D : DM) (j : Nat) : (addStep L l D j).2.wait.length ≤ D.wait.length + l.length + 1 := by
  have hl : ∀ (m : List Chg) (E : DM) (i : Nat), (layD L E i m).2.wait.length ≤ E.wait.length + m.length := by
    intro m
    induction m with
    | nil => intro E i; exact Nat.le_refl _
    | cons c m ih =>
      intro E i
      have h1 := DM.wr_wait E ((L.from_ + L.next + i : Nat) : Int) (textB 111 (L.first + L.next + i) (bytesOf c))
      unfold layD
      split
      · have := ih (E.write ((L.from_ + L.next + i : Nat) : Int) (textB 111 (L.first + L.next + i) (bytesOf c))).2 (i + 1)
        simp only [List.length_cons]
        omega
      · simp only [List.length_cons]
        omega
  have h0 := hl l D 0
  have hf := D.flush_wait
  unfold addStep
  split
  · unfold layL
    split
    · split
      · have := DM.wr_wait (layD L D 0 l).2 ((L.from_ + (L.next + l.length + 1) : Nat) : Int) ⟨#[]⟩
        omega
      · omega
    · omega
  · omega
  · have := DM.wr_wait D ((L.from_ + (L.next + l.length) : Nat) : Int) (textB 99 (L.first + (L.next + l.length)) (fourB l.length))
    unfold closeD
    omega
  · omega

set_option maxHeartbeats 8000000 in
set_option maxRecDepth 100000 in
theorem add_any (b db : Nat) (X : List Nat) (D : DM) (L : LM) (v : Value) (l : List Chg) (w : World) (hD : DiskAt w 107 111 db X D) (hL : LogAt w b db L) (hb : b ∉ X) (hV : ChgP (fun k => k ∉ X) w v l)
    (h1 : L.from_ + L.many ≤ 130) (h2 : L.next ≤ L.many) (h3 : L.first < 1073741824) (hw : D.wait.length < 8000) (hl : l.length ≤ 1000) :
    Calls Try.prog 47 #[.pointer (some ⟨b, 0, none⟩), v] w (Ret (errV (addL L D l).1) (AddRes w b db X (addL L D l).2.1 (addL L D l).2.2)) := by
  have HV := Lib.hid hV
  obtain ⟨ao, cap, rfl, hm, hr⟩ := hV
  have HL := Lib.hid hL
  obtain ⟨n, hnn⟩ : ∃ n, n = l.length := ⟨_, rfl⟩
  have HN := Lib.hid hnn
  have HR := Lib.hid hr
  have HD := Lib.hid hD
  have HB := Lib.hid hb
  have H3 := Lib.hid h3
  rw [← hnn] at hl ⊢
  rw [← hnn] at HV
  have n0 : (0 : Int) ≤ (n : Int) := by omega
  have n1 : (n : Int) ≤ 1000 := by omega
  have x0 : (0 : Int) ≤ (L.next : Int) := by omega
  have x1 : (L.next : Int) ≤ 130 := by omega
  have m1 : (L.many : Int) ≤ 130 := by omega
  clear hL hr hD hb hm h3 hnn
  have HBOX := Lib.hid (((Below.refl w.heap.size w).alloc (Nat.le_refl _) (.cells #[.pointer (some ⟨b, 0, none⟩)] 79)).alloc (by rw [size_alloc]; omega) (.cells #[.slice ao n cap] 36))
  by_cases h12 : 12 < n
  · have h12' : (12 : Int) < (n : Int) := by omega
    have hend : addL L D l = (2, D, L) := by rw [addL, if_pos (by rw [← HN.out]; exact h12)]
    have HEND := Lib.hid hend
    clear hend
    go_enter Try.func47, Try.ntmps47
    go_wp2_with fail
    go_ret
    exact Ret.of (by rw [HEND.out]; rfl) ⟨X, by rw [HEND.out]; exact HD.out.frame (Frame.of_below [] HBOX.out) (by simp), by rw [HEND.out]; exact (HBOX.out.block _ (lt_of_heap HL.out)).trans HL.out, Frame.of_below _ HBOX.out, Fresh.refl _ _⟩
  have hn12 : (n : Int) ≤ 12 := by omega
  have s1 : IntKind.i64.wrap ((n : Int) + 1) = (n : Int) + 1 := IntWalk.i64_in _ (by omega)
  go_enter Try.func47, Try.ntmps47
  go_wp2_with fail
  have hP2 : ((w.alloc (.cells #[.pointer (some ⟨b, 0, none⟩)] 79)).alloc (.cells #[.slice ao n cap] 36)).heap[w.heap.size]? = some (.cells #[.pointer (some ⟨b, 0, none⟩)] 79 (0, 0)) := by
    rw [heap_alloc_old _ _ (by rw [size_alloc]; omega), heap_alloc_new]
  have hP3 : ((w.alloc (.cells #[.pointer (some ⟨b, 0, none⟩)] 79)).alloc (.cells #[.slice ao n cap] 36)).heap[w.heap.size + 1]? = some (.cells #[.slice ao n cap] 36 (0, 0)) := by
    rw [← size_alloc w (.cells #[.pointer (some ⟨b, 0, none⟩)] 79), heap_alloc_new]
  generalize (w.alloc (.cells #[.pointer (some ⟨b, 0, none⟩)] 79)).alloc (.cells #[.slice ao n cap] 36) = w2 at *
  have P2 := Lib.hid hP2
  have P3 := Lib.hid hP3
  have c2 := cell_of hP2 0
  have c3 := cell_of hP3 0
  simp only [List.getElem?_toArray, List.getElem?_cons_zero] at c2 c3
  have HL2 := Lib.hid ((HBOX.out.block _ (lt_of_heap HL.out)).trans HL.out)
  have hroom := fun m => Calls.quiet_of (n := m) ((room_any b db L (w2.drewN m) (show (w2.drewN m).heap[b]? = _ from HL2.out) (by omega) (by omega)).mono fun e w' h => ⟨h.1, h.2⟩)
  have QROOM := Lib.hid hroom
  clear hP2 hP3 hroom
  go_quiet ((go_at_call 45; exact QROOM.out _))
  clear s1 QROOM
  have HBX := Lib.hid (below_drewN HBOX.out nq)
  replace P2 := Lib.hid (show (w2.drewN nq).heap[w.heap.size]? = _ from P2.out)
  replace P3 := Lib.hid (show (w2.drewN nq).heap[w.heap.size + 1]? = _ from P3.out)
  clear c2 c3 HL2
  generalize w2.drewN nq = w3 at HBX P2 P3 ⊢
  have HL3 := Lib.hid ((HBX.out.block _ (lt_of_heap HL.out)).trans HL.out)
  have HD3 := Lib.hid (HD.out.frame (Frame.of_below [] HBX.out) (by simp))
  have HV3 := Lib.hid (HV.out.frame (Frame.of_below [] HBX.out) (by simp))
  clear HBOX
  by_cases hroom : L.many < L.next + (n + 1)
  · have hroom' : (L.many : Int) - (L.next : Int) < (n : Int) + 1 := by omega
    have hend : addL L D l = (9, D, L) := by rw [addL, if_neg (by rw [← HN.out]; exact h12), if_pos (by rw [← HN.out]; exact hroom)]
    have HEND := Lib.hid hend
    clear hend
    go_wp2_with fail
    go_ret
    exact Ret.of (by rw [HEND.out]; rfl) ⟨X, by rw [HEND.out]; exact HD3.out, by rw [HEND.out]; exact HL3.out, Frame.of_below _ HBX.out, Fresh.refl _ _⟩
  have hroom' : (n : Int) + 1 ≤ (L.many : Int) - (L.next : Int) := by omega
  have c2 := cell_of P2.out 0
  have c3 := cell_of P3.out 0
  simp only [List.getElem?_toArray, List.getElem?_cons_zero] at c2 c3
  go_wp2_with fail
  go_loopw [25] (fun i wr => ∃ k : Nat, k ≤ n ∧ i = .int .i64 (k : Int) ∧ Hid (Below w.heap.size w wr ∧ wr.heap[w.heap.size]? = some (.cells #[.pointer (some ⟨b, 0, none⟩)] 79 (0, 0)) ∧ wr.heap[w.heap.size + 1]? = some (.cells #[.slice ao n cap] 36 (0, 0))) ∧
    Hid (firstFault l = firstFault (l.drop k))) (fun i _ => n - (intOf i).toNat)
  case atStart => exact ⟨0, Nat.zero_le _, rfl, ⟨HBX.out, P2.out, P3.out⟩, rfl⟩
  case round =>
    clear c2 c3 HL3 HD3 HV3 P2 P3 HBX
    obtain ⟨k, hk, rfl, HS, HFF⟩ := hrel
    have k0 : (0 : Int) ≤ (k : Int) := by omega
    by_cases hlt : k < n
    · have k1 : (k : Int) < (n : Int) := by omega
      obtain ⟨⟨ck, cv, cg⟩, hc⟩ : ∃ a, l[k]? = some a := ⟨_, List.getElem?_eq_getElem (by rw [← HN.out]; exact hlt)⟩
      obtain ⟨b1, off, rfl, hbX, c0, c1, c2⟩ := HR.out k _ hc
      have hff : firstFault (l.drop k) = firstFault (⟨ck, cv, cg⟩ :: l.drop (k + 1)) := by
        obtain ⟨h1, h2⟩ := List.getElem?_eq_some_iff.1 hc
        rw [List.drop_eq_getElem_cons h1, h2]
      rw [firstFault] at hff
      have HF2 := Lib.hid (HFF.out.trans hff)
      have d0 := (HS.out.1.cell (World.block_lt_of_cell? w _ c0)).trans c0
      have d1 := (HS.out.1.cell (World.block_lt_of_cell? w _ c1)).trans c1
      have d2 := (HS.out.1.cell (World.block_lt_of_cell? w _ c2)).trans c2
      clear hc hff c0 c1 c2
      go_wp2_with fail
      refine (check_any ck cv cg _).mono ?_
      rintro e w4 ⟨rfl, hB4⟩
      have HW4 := Lib.hid ((Below.refl wr.heap.size wr).alloc (Nat.le_refl _) (.cells #[.string ck, .string cv, .bool cg] 64) |>.trans (hB4.mono (by rw [size_alloc]; omega)))
      have HS4 := Lib.hid (show Below w.heap.size w w4 ∧ w4.heap[w.heap.size]? = some (.cells #[.pointer (some ⟨b, 0, none⟩)] 79 (0, 0)) ∧ w4.heap[w.heap.size + 1]? = some (.cells #[.slice (some ⟨b1, off, none⟩) n cap] 36 (0, 0)) from
        ⟨HS.out.1.trans (HW4.out.mono HS.out.1.size), (HW4.out.block _ (lt_of_heap HS.out.2.1)).trans HS.out.2.1, (HW4.out.block _ (lt_of_heap HS.out.2.2)).trans HS.out.2.2⟩)
      clear hB4 d0 d1 d2
      generalize faultOf ⟨ck, cv, cg⟩ = fm at *
      by_cases hfm : fm = 0
      · subst hfm
        have e0 : errV 0 = .nilIface := rfl
        rw [e0]
        clear e0
        have HF3 := Lib.hid (show firstFault l = firstFault (l.drop (k + 1)) by rw [HF2.out, if_pos rfl])
        go_wp2_with fail
        exact ⟨⟨k + 1, by omega, by go_num, HS4, HF3⟩, by simp [intOf]; omega⟩
      · have e0 : errV fm = .iface 101 (.int .i64 (fm : Int)) := by simp [errV, hfm]
        have hend : addL L D l = (fm, D, L) := by
          rw [addL, if_neg (by rw [← HN.out]; exact h12), if_neg (by rw [← HN.out]; exact hroom), if_pos (by rw [HF2.out, if_neg hfm]; exact hfm), HF2.out, if_neg hfm]
        have HEND := Lib.hid hend
        have E0 := Lib.hid e0
        rw [e0]
        clear e0 hend
        go_wp2_with fail
        go_ret
        exact Ret.of (by rw [HEND.out]; exact E0.out.symm) ⟨X, by rw [HEND.out]; exact HD.out.frame (Frame.of_below [] HS4.out.1) (by simp), by rw [HEND.out]; exact (HS4.out.1.block _ (lt_of_heap HL.out)).trans HL.out, Frame.of_below _ HS4.out.1, Fresh.refl _ _⟩
    · obtain rfl : k = n := by omega
      have hall : firstFault l = 0 := by
        rw [HFF.out, List.drop_of_length_le (by rw [← HN.out]; exact Nat.le_refl _)]
        rfl
      have HALL := Lib.hid hall
      clear hall
      have hadd : addL L D l = ((addRun L l D [0, 1, 2, 3]).1, (addRun L l D [0, 1, 2, 3]).2, if (addRun L l D [0, 1, 2, 3]).1 = 0 then { L with next := L.next + l.length + 1 } else L) := by
        rw [addL, if_neg (by rw [← HN.out]; exact h12), if_neg (by rw [← HN.out]; exact hroom), if_neg (by rw [HALL.out]; simp)]
      have HADD := Lib.hid hadd
      clear hadd
      have HL3 := Lib.hid ((HS.out.1.block _ (lt_of_heap HL.out)).trans HL.out)
      have CELLS := Lib.hid (fun w2 (hT : Below wr.heap.size wr w2) => And.intro (LogAt.cells (L := L) (w := w2) ((hT.block _ (lt_of_heap HL3.out)).trans HL3.out))
        (show w2.cell? ⟨w.heap.size, 0, none⟩ = some (.pointer (some ⟨b, 0, none⟩)) ∧ w2.cell? ⟨w.heap.size + 1, 0, none⟩ = some (.slice ao k cap) from
          ⟨cell_of ((hT.block _ (lt_of_heap HS.out.2.1)).trans HS.out.2.1) 0, cell_of ((hT.block _ (lt_of_heap HS.out.2.2)).trans HS.out.2.2) 0⟩))
      have s2 : IntKind.i64.wrap ((L.next : Int) + (k : Int)) = (L.next : Int) + (k : Int) := IntWalk.i64_in _ (by omega)
      go_wp2_with fail
      refine wp_region_plan (fun w2 => Below wr.heap.size wr w2) 71 [([0, 4, 1, 5, 2, 3, 6], [7], true), ([], [8], false)] (by kernel_rfl) (by kernel_rfl) ?_
      apply wpStages_keep
      case hT => exact (Below.refl _ _).drew
      case hn => exact Nat.le_refl _
      case hq =>
        intro w2 hT
        obtain ⟨⟨l0, l1, l2, l3, l4⟩, c2, c3⟩ := CELLS.out w2 hT
        simp only [picked, List.filterMap_cons, List.filterMap_nil, List.getElem?_cons_zero, List.getElem?_cons_succ]
        with_reducible refine wpStill_want ?hw (fun K hK => ?_)
        case hw => kernel_rfl
        (go_simp; refine hK _ ?_; clear hK K)
        with_reducible refine wpStill_want ?hw (fun K hK => ?_)
        case hw => kernel_rfl
        (go_simp; refine hK _ ?_; clear hK K)
        with_reducible refine wpStill_want ?hw (fun K hK => ?_)
        case hw => kernel_rfl
        (go_simp; refine hK _ ?_; clear hK K)
        with_reducible refine wpStill_want ?hw (fun K hK => ?_)
        case hw => kernel_rfl
        (go_simp; refine hK _ ?_; clear hK K)
        with_reducible refine wpStill_want ?hw (fun K hK => ?_)
        case hw => kernel_rfl
        (go_simp; refine hK _ ?_; clear hK K)
        with_reducible refine wpStill_want ?hw (fun K hK => ?_)
        case hw => kernel_rfl
        (go_simp; refine hK _ ?_; clear hK K)
        with_reducible refine wpStill_want ?hw (fun K hK => ?_)
        case hw => kernel_rfl
        (go_simp; refine hK _ ?_; clear hK K)
        exact wpStill_nil rfl
      simp only [picked, List.filterMap_cons, List.filterMap_nil, List.getElem?_cons_zero, List.getElem?_cons_succ]
      clear s2
      go_wp2_with fail
      refine OnlyNormal.mk ⟨(Below.refl _ _).drew.alloc (Nat.le_refl _) _, ?_⟩
      apply wpStages_seq
      simp only [picked, List.filterMap_cons, List.filterMap_nil, List.getElem?_cons_zero, List.getElem?_cons_succ]
      go_wp2_with fail
      refine OnlyNormal.mk (wpStages_nil ?_)
      have HB4 := Lib.hid (((Below.refl wr.heap.size wr).alloc (Nat.le_refl _) (.cells #[.int .i64 ((L.next : Int) + (k : Int))] 3)).drew)
      have hP8 := heap_alloc_new wr (.cells #[.int .i64 ((L.next : Int) + (k : Int))] 3)
      have hS8 := size_alloc wr (.cells #[.int .i64 ((L.next : Int) + (k : Int))] 3)
      rw [← heap_drew] at hP8 hS8
      have HP8 := Lib.hid hP8
      generalize (wr.alloc (.cells #[.int .i64 ((L.next : Int) + (k : Int))] 3)).drew = w4 at HB4 HP8 hS8 ⊢
      have HS8 := Lib.hid hS8
      clear hP8 hS8
      generalize hp8 : wr.heap.size = p8 at HP8 HS8 ⊢
      have HPE := Lib.hid hp8
      clear hp8
      have CELLS4 := Lib.hid (fun w2 (hT : Below w4.heap.size w4 w2) => CELLS.out w2 (HB4.out.trans (hT.mono HB4.out.size)))
      go_wp2_with fail
      refine wp_region_plan (fun w2 => Below w4.heap.size w4 w2) 71 [([0, 1, 2, 3, 4, 5, 6, 7, 8, 9, 10, 11, 14], [12], true), ([13], [], false)] (by kernel_rfl) (by kernel_rfl) ?_
      apply wpStages_keep
      case hT => exact (Below.refl _ _).drew
      case hn => exact Nat.le_refl _
      case hq =>
        intro w2 hT
        obtain ⟨⟨l0, l1, l2, l3, l4⟩, c2, c3⟩ := CELLS4.out w2 hT
        simp only [picked, List.filterMap_cons, List.filterMap_nil, List.getElem?_cons_zero, List.getElem?_cons_succ]
        with_reducible refine wpStill_want ?hw (fun K hK => ?_)
        case hw => kernel_rfl
        (go_simp; refine hK _ ?_; clear hK K)
        with_reducible refine wpStill_want ?hw (fun K hK => ?_)
        case hw => kernel_rfl
        (go_simp; refine hK _ ?_; clear hK K)
        with_reducible refine wpStill_want ?hw (fun K hK => ?_)
        case hw => kernel_rfl
        (go_simp; refine hK _ ?_; clear hK K)
        with_reducible refine wpStill_want ?hw (fun K hK => ?_)
        case hw => kernel_rfl
        (go_simp; refine hK _ ?_; clear hK K)
        with_reducible refine wpStill_want ?hw (fun K hK => ?_)
        case hw => kernel_rfl
        (go_simp; refine hK _ ?_; clear hK K)
        with_reducible refine wpStill_want ?hw (fun K hK => ?_)
        case hw => kernel_rfl
        (go_simp; refine hK _ ?_; clear hK K)
        with_reducible refine wpStill_want ?hw (fun K hK => ?_)
        case hw => kernel_rfl
        (go_simp; refine hK _ ?_; clear hK K)
        with_reducible refine wpStill_want ?hw (fun K hK => ?_)
        case hw => kernel_rfl
        (go_simp; refine hK _ ?_; clear hK K)
        with_reducible refine wpStill_want ?hw (fun K hK => ?_)
        case hw => kernel_rfl
        (go_simp; refine hK _ ?_; clear hK K)
        with_reducible refine wpStill_want ?hw (fun K hK => ?_)
        case hw => kernel_rfl
        (go_simp; refine hK _ ?_; clear hK K)
        with_reducible refine wpStill_want ?hw (fun K hK => ?_)
        case hw => kernel_rfl
        (go_simp; refine hK _ ?_; clear hK K)
        with_reducible refine wpStill_want ?hw (fun K hK => ?_)
        case hw => kernel_rfl
        (go_simp; refine hK _ ?_; clear hK K)
        with_reducible refine wpStill_want ?hw (fun K hK => ?_)
        case hw => kernel_rfl
        (go_simp; refine hK _ ?_; clear hK K)
        exact wpStill_nil rfl
      simp only [picked, List.filterMap_cons, List.filterMap_nil, List.getElem?_cons_zero, List.getElem?_cons_succ]
      go_wp2_with fail
      refine OnlyNormal.mk ⟨(Below.refl _ _).drew.alloc (Nat.le_refl _) _, ?_⟩
      apply wpStages_last
      case hT => exact ((Below.refl _ _).alloc (Nat.le_refl _) _).drew
      case hn => exact Nat.le_refl _
      case hq =>
        intro w2 hT
        simp only [picked, List.filterMap_cons, List.filterMap_nil, List.getElem?_cons_zero, List.getElem?_cons_succ]
        with_reducible refine wpStill_want ?hw (fun K hK => ?_)
        case hw => kernel_rfl
        (go_simp; refine hK _ ?_; clear hK K)
        exact wpStill_nil rfl
      refine wpList_nil (OnlyNormal.mk ?_)
      have HB5' := Lib.hid (((Below.refl w4.heap.size w4).alloc (Nat.le_refl _) (.cells #[.func (.func 84) #[] #[.pointer (some ⟨w.heap.size, 0, none⟩), .pointer (some ⟨w.heap.size + 1, 0, none⟩)], .func (.func 21) #[.pointer (some ⟨db, 0, none⟩)] #[], .func (.func 86) #[] #[.pointer (some ⟨w.heap.size, 0, none⟩), .pointer (some ⟨p8, 0, none⟩), .pointer (some ⟨w.heap.size + 1, 0, none⟩)], .func (.func 21) #[.pointer (some ⟨db, 0, none⟩)] #[]] 45)).drew)
      have hPF := heap_alloc_new w4 (.cells #[.func (.func 84) #[] #[.pointer (some ⟨w.heap.size, 0, none⟩), .pointer (some ⟨w.heap.size + 1, 0, none⟩)], .func (.func 21) #[.pointer (some ⟨db, 0, none⟩)] #[], .func (.func 86) #[] #[.pointer (some ⟨w.heap.size, 0, none⟩), .pointer (some ⟨p8, 0, none⟩), .pointer (some ⟨w.heap.size + 1, 0, none⟩)], .func (.func 21) #[.pointer (some ⟨db, 0, none⟩)] #[]] 45)
      rw [← heap_drew] at hPF
      have HPF := Lib.hid hPF
      generalize (w4.alloc (.cells #[.func (.func 84) #[] #[.pointer (some ⟨w.heap.size, 0, none⟩), .pointer (some ⟨w.heap.size + 1, 0, none⟩)], .func (.func 21) #[.pointer (some ⟨db, 0, none⟩)] #[], .func (.func 86) #[] #[.pointer (some ⟨w.heap.size, 0, none⟩), .pointer (some ⟨p8, 0, none⟩), .pointer (some ⟨w.heap.size + 1, 0, none⟩)], .func (.func 21) #[.pointer (some ⟨db, 0, none⟩)] #[]] 45)).drew = w5 at HB5' HPF ⊢
      clear hPF
      have HPFW := Lib.hid (Nat.le_trans HS.out.1.size HB4.out.size)
      have HB45 := Lib.hid (HB4.out.trans (HB5'.out.mono HB4.out.size))
      have HB5 := Lib.hid (HS.out.1.trans (HB45.out.mono HS.out.1.size))
      have HFRW := Lib.hid (Frame.of_below X HB5.out)
      have HP2 := Lib.hid ((HB45.out.block _ (lt_of_heap HS.out.2.1)).trans HS.out.2.1)
      have HP3 := Lib.hid ((HB45.out.block _ (lt_of_heap HS.out.2.2)).trans HS.out.2.2)
      have HP85 := Lib.hid ((HB5'.out.block p8 (lt_of_heap HP8.out)).trans HP8.out)
      have HPW := Lib.hid (show w.heap.size ≤ p8 by rw [← HPE.out]; exact HS.out.1.size)
      have HDD := Lib.hid (HD.out.frame (Frame.of_below [] HB5.out) (by simp))
      clear CELLS CELLS4 HB5' HP8 HS8 HPE HB4 HB45 HS HFF HL3
      generalize w4.heap.size = pf at HPF HPFW ⊢
      go_wp2_with fail
      go_loopw [56] (fun i wr => ∃ (j : Nat) (Y : List Nat) (E : DM), j ≤ 4 ∧ i = .int .i64 (j : Int) ∧ Hid (DiskAt wr 107 111 db Y E) ∧ Hid (Frame X w5 wr) ∧ Hid (Fresh w5 X Y) ∧ Hid (addRun L l D [0, 1, 2, 3] = addRun L l E ([0, 1, 2, 3].drop j)) ∧
        Hid (E.wait.length ≤ D.wait.length + 13 * j)) (fun i _ => 4 - (intOf i).toNat)
      case atStart => exact ⟨0, X, D, by omega, rfl, HDD, Frame.refl _ _, Fresh.refl _ _, rfl, by show _ ≤ _; omega⟩
      case round =>
        clear HDD
        obtain ⟨j, Y, E, hj, rfl, HE, HFR, HFS, HRUN, HWT⟩ := hrel
        have j0 : (0 : Int) ≤ (j : Int) := by omega
        have hXlt := HD.out.lt
        have hbl := lt_of_heap HL.out
        have HBY := Lib.hid (show b ∉ Y from fun h => (HFS.out b h).elim HB.out (fun h2 => by have := HB5.out.size; omega))
        have hoff : ∀ q, w.heap.size ≤ q → q ∉ X := fun q hq hc => by have := hXlt q hc; omega
        have hP2r := HFR.out.heap HP2.out (hoff _ (Nat.le_refl _))
        have hP3r := HFR.out.heap HP3.out (hoff _ (Nat.le_succ _))
        have hP8r := HFR.out.heap HP85.out (hoff _ HPW.out)
        have HPFr := Lib.hid (HFR.out.heap HPF.out (hoff _ HPFW.out))
        have HLr := Lib.hid ((HFRW.out.then' HFR.out (fun k hk => .inl hk)).heap HL.out HB.out)
        have HVr := Lib.hid ((((HV.out.mono (S' := fun q => q ∉ X ∧ q < w.heap.size) (fun q h1 h2 => ⟨h2, h1⟩)).frame (HFRW.out.then' HFR.out (fun k hk => .inl hk)) (fun q hq => hq.1)).mono (S' := fun q => q ∉ Y)
          (fun q _ hq hc => (HFS.out q hc).elim hq.1 (fun h2 => by have := HB5.out.size; omega))))
        have c2 := cell_of hP2r 0
        have c3 := cell_of hP3r 0
        have c8 := cell_of hP8r 0
        simp only [List.getElem?_toArray, List.getElem?_cons_zero] at c2 c3 c8
        have z4 := frozen_of HLr.out 4
        clear hXlt hbl hoff hP2r hP3r hP8r
        by_cases hj4 : j < 4
        · have j1 : (j : Int) < 4 := by omega
          have hjj : j = 0 ∨ j = 1 ∨ j = 2 ∨ j = 3 := by omega
          rcases hjj with hjj | hjj | hjj | hjj
          all_goals
            have HJ := Lib.hid hjj
            clear hjj
          · have cf : wr.cell? ⟨pf, j, none⟩ = some (.func (.func 84) #[] #[.pointer (some ⟨w.heap.size, 0, none⟩), .pointer (some ⟨w.heap.size + 1, 0, none⟩)]) := by rw [HJ.out]; exact cell_of HPFr.out 0
            go_wp2_with fail
            refine (closure84 w.heap.size (w.heap.size + 1) b db Y E L (.slice ao k cap) l wr c2 c3 HE.out HLr.out HBY.out HVr.out (firstFault_zero l HALL.out) h1 (by rw [← HN.out]; omega) H3.out (by have := HWT.out; have := HN.out; omega)).mono ?_
            rintro e w6 ⟨rfl, hdone⟩
            have hrun : addRun L l D [0, 1, 2, 3] = if (layL L E l).1 = 0 then addRun L l (layL L E l).2 ([0, 1, 2, 3].drop (j + 1)) else layL L E l := by rw [HRUN.out, HJ.out]; rfl
            have hwt := addStep_wait L l E 0
            rw [show addStep L l E 0 = layL L E l from rfl] at hwt
            have HRUN2 := Lib.hid hrun
            have HDONE := Lib.hid hdone
            clear hrun hdone cf
            generalize layL L E l = r at *
            obtain ⟨m, E'⟩ := r
            simp only at *
            by_cases hm0 : m = 0
            · subst hm0
              have e0 : errV 0 = .nilIface := rfl
              rw [e0]
              clear e0
              obtain ⟨Z, hz1, hz2, hz3⟩ := HDONE.out
              have HZ1 := Lib.hid hz1
              have HZ2 := Lib.hid (HFR.out.then' hz2 HFS.out)
              have HZ3 := Lib.hid (HFS.out.trans hz3 HFR.out.size)
              have HRUN3 := Lib.hid (show addRun L l D [0, 1, 2, 3] = addRun L l E' ([0, 1, 2, 3].drop (j + 1)) by rw [HRUN2.out, if_pos rfl])
              have HWT2 := Lib.hid (show E'.wait.length ≤ D.wait.length + 13 * (j + 1) by have := HWT.out; have := HN.out; omega)
              clear hz1 hz2 hz3 hwt
              go_wp2_with fail
              exact ⟨⟨j + 1, Z, E', by omega, by go_num, HZ1, HZ2, HZ3, HRUN3, HWT2⟩, by simp [intOf]; omega⟩
            · have e0 : errV m = .iface 101 (.int .i64 (m : Int)) := by simp [errV, hm0]
              have hend : addL L D l = (m, E', L) := by rw [HADD.out, HRUN2.out, if_neg hm0, if_neg hm0]
              have HEND := Lib.hid hend
              have E0 := Lib.hid e0
              rw [e0]
              clear e0 hend hwt
              obtain ⟨Z, hz1, hz2, hz3⟩ := HDONE.out
              have hres : AddRes w b db X (addL L D l).2.1 (addL L D l).2.2 w6 := by
                rw [HEND.out]
                have hfr6 : Frame X w w6 := (HFRW.out.then' HFR.out (fun k hk => .inl hk)).then' hz2 (fun k hk => (HFS.out k hk).imp id (Nat.le_trans HB5.out.size))
                exact ⟨Z, hz1, hfr6.heap HL.out HB.out, hfr6.mono (fun k hk => List.mem_cons_of_mem _ hk), fun k hk => ((HFS.out.trans hz3 HFR.out.size) k hk).imp id (Nat.le_trans HB5.out.size)⟩
              have HRES := Lib.hid hres
              clear hres hz1 hz2 hz3
              go_wp2_with fail
              go_ret
              exact Ret.of (by rw [HEND.out]; exact E0.out.symm) HRES.out
          · have cf : wr.cell? ⟨pf, j, none⟩ = some (.func (.func 21) #[.pointer (some ⟨db, 0, none⟩)] #[]) := by rw [HJ.out]; exact cell_of HPFr.out 1
            go_wp2_with fail
            refine (flush_any db Y E wr HE.out).mono ?_
            rintro e w6 ⟨rfl, hd, hf⟩
            have hdone : DiskRes wr db Y (E.flush).2 w6 := ⟨Y, hd, hf, Fresh.refl _ _⟩
            clear hd hf
            have hrun : addRun L l D [0, 1, 2, 3] = if (E.flush).1 = 0 then addRun L l (E.flush).2 ([0, 1, 2, 3].drop (j + 1)) else E.flush := by rw [HRUN.out, HJ.out]; rfl
            have hwt := addStep_wait L l E 1
            rw [show addStep L l E 1 = E.flush from rfl] at hwt
            have HRUN2 := Lib.hid hrun
            have HDONE := Lib.hid hdone
            clear hrun hdone cf
            generalize E.flush = r at *
            obtain ⟨m, E'⟩ := r
            simp only at *
            by_cases hm0 : m = 0
            · subst hm0
              have e0 : errV 0 = .nilIface := rfl
              rw [e0]
              clear e0
              obtain ⟨Z, hz1, hz2, hz3⟩ := HDONE.out
              have HZ1 := Lib.hid hz1
              have HZ2 := Lib.hid (HFR.out.then' hz2 HFS.out)
              have HZ3 := Lib.hid (HFS.out.trans hz3 HFR.out.size)
              have HRUN3 := Lib.hid (show addRun L l D [0, 1, 2, 3] = addRun L l E' ([0, 1, 2, 3].drop (j + 1)) by rw [HRUN2.out, if_pos rfl])
              have HWT2 := Lib.hid (show E'.wait.length ≤ D.wait.length + 13 * (j + 1) by have := HWT.out; have := HN.out; omega)
              clear hz1 hz2 hz3 hwt
              go_wp2_with fail
              exact ⟨⟨j + 1, Z, E', by omega, by go_num, HZ1, HZ2, HZ3, HRUN3, HWT2⟩, by simp [intOf]; omega⟩
            · have e0 : errV m = .iface 101 (.int .i64 (m : Int)) := by simp [errV, hm0]
              have hend : addL L D l = (m, E', L) := by rw [HADD.out, HRUN2.out, if_neg hm0, if_neg hm0]
              have HEND := Lib.hid hend
              have E0 := Lib.hid e0
              rw [e0]
              clear e0 hend hwt
              obtain ⟨Z, hz1, hz2, hz3⟩ := HDONE.out
              have hres : AddRes w b db X (addL L D l).2.1 (addL L D l).2.2 w6 := by
                rw [HEND.out]
                have hfr6 : Frame X w w6 := (HFRW.out.then' HFR.out (fun k hk => .inl hk)).then' hz2 (fun k hk => (HFS.out k hk).imp id (Nat.le_trans HB5.out.size))
                exact ⟨Z, hz1, hfr6.heap HL.out HB.out, hfr6.mono (fun k hk => List.mem_cons_of_mem _ hk), fun k hk => ((HFS.out.trans hz3 HFR.out.size) k hk).imp id (Nat.le_trans HB5.out.size)⟩
              have HRES := Lib.hid hres
              clear hres hz1 hz2 hz3
              go_wp2_with fail
              go_ret
              exact Ret.of (by rw [HEND.out]; exact E0.out.symm) HRES.out
          · have cf : wr.cell? ⟨pf, j, none⟩ = some (.func (.func 86) #[] #[.pointer (some ⟨w.heap.size, 0, none⟩), .pointer (some ⟨p8, 0, none⟩), .pointer (some ⟨w.heap.size + 1, 0, none⟩)]) := by rw [HJ.out]; exact cell_of HPFr.out 2
            go_wp2_with fail
            refine (closure86 w.heap.size p8 (w.heap.size + 1) b db Y E L (.slice ao k cap) l wr c2 c3 (by rw [← HN.out]; exact c8) HE.out HLr.out HVr.out h1 (by rw [← HN.out]; omega) H3.out (by have := HWT.out; omega)).mono ?_
            rintro e w6 ⟨rfl, hdone⟩
            have hrun : addRun L l D [0, 1, 2, 3] = if (closeD L l.length E).1 = 0 then addRun L l (closeD L l.length E).2 ([0, 1, 2, 3].drop (j + 1)) else closeD L l.length E := by rw [HRUN.out, HJ.out]; rfl
            have hwt := addStep_wait L l E 2
            rw [show addStep L l E 2 = closeD L l.length E from rfl] at hwt
            have HRUN2 := Lib.hid hrun
            have HDONE := Lib.hid hdone
            clear hrun hdone cf
            generalize closeD L l.length E = r at *
            obtain ⟨m, E'⟩ := r
            simp only at *
            by_cases hm0 : m = 0
            · subst hm0
              have e0 : errV 0 = .nilIface := rfl
              rw [e0]
              clear e0
              obtain ⟨Z, hz1, hz2, hz3⟩ := HDONE.out
              have HZ1 := Lib.hid hz1
              have HZ2 := Lib.hid (HFR.out.then' hz2 HFS.out)
              have HZ3 := Lib.hid (HFS.out.trans hz3 HFR.out.size)
              have HRUN3 := Lib.hid (show addRun L l D [0, 1, 2, 3] = addRun L l E' ([0, 1, 2, 3].drop (j + 1)) by rw [HRUN2.out, if_pos rfl])
              have HWT2 := Lib.hid (show E'.wait.length ≤ D.wait.length + 13 * (j + 1) by have := HWT.out; have := HN.out; omega)
              clear hz1 hz2 hz3 hwt
              go_wp2_with fail
              exact ⟨⟨j + 1, Z, E', by omega, by go_num, HZ1, HZ2, HZ3, HRUN3, HWT2⟩, by simp [intOf]; omega⟩
            · have e0 : errV m = .iface 101 (.int .i64 (m : Int)) := by simp [errV, hm0]
              have hend : addL L D l = (m, E', L) := by rw [HADD.out, HRUN2.out, if_neg hm0, if_neg hm0]
              have HEND := Lib.hid hend
              have E0 := Lib.hid e0
              rw [e0]
              clear e0 hend hwt
              obtain ⟨Z, hz1, hz2, hz3⟩ := HDONE.out
              have hres : AddRes w b db X (addL L D l).2.1 (addL L D l).2.2 w6 := by
                rw [HEND.out]
                have hfr6 : Frame X w w6 := (HFRW.out.then' HFR.out (fun k hk => .inl hk)).then' hz2 (fun k hk => (HFS.out k hk).imp id (Nat.le_trans HB5.out.size))
                exact ⟨Z, hz1, hfr6.heap HL.out HB.out, hfr6.mono (fun k hk => List.mem_cons_of_mem _ hk), fun k hk => ((HFS.out.trans hz3 HFR.out.size) k hk).imp id (Nat.le_trans HB5.out.size)⟩
              have HRES := Lib.hid hres
              clear hres hz1 hz2 hz3
              go_wp2_with fail
              go_ret
              exact Ret.of (by rw [HEND.out]; exact E0.out.symm) HRES.out
          · have cf : wr.cell? ⟨pf, j, none⟩ = some (.func (.func 21) #[.pointer (some ⟨db, 0, none⟩)] #[]) := by rw [HJ.out]; exact cell_of HPFr.out 3
            go_wp2_with fail
            refine (flush_any db Y E wr HE.out).mono ?_
            rintro e w6 ⟨rfl, hd, hf⟩
            have hdone : DiskRes wr db Y (E.flush).2 w6 := ⟨Y, hd, hf, Fresh.refl _ _⟩
            clear hd hf
            have hrun : addRun L l D [0, 1, 2, 3] = if (E.flush).1 = 0 then addRun L l (E.flush).2 ([0, 1, 2, 3].drop (j + 1)) else E.flush := by rw [HRUN.out, HJ.out]; rfl
            have hwt := addStep_wait L l E 3
            rw [show addStep L l E 3 = E.flush from rfl] at hwt
            have HRUN2 := Lib.hid hrun
            have HDONE := Lib.hid hdone
            clear hrun hdone cf
            generalize E.flush = r at *
            obtain ⟨m, E'⟩ := r
            simp only at *
            by_cases hm0 : m = 0
            · subst hm0
              have e0 : errV 0 = .nilIface := rfl
              rw [e0]
              clear e0
              obtain ⟨Z, hz1, hz2, hz3⟩ := HDONE.out
              have HZ1 := Lib.hid hz1
              have HZ2 := Lib.hid (HFR.out.then' hz2 HFS.out)
              have HZ3 := Lib.hid (HFS.out.trans hz3 HFR.out.size)
              have HRUN3 := Lib.hid (show addRun L l D [0, 1, 2, 3] = addRun L l E' ([0, 1, 2, 3].drop (j + 1)) by rw [HRUN2.out, if_pos rfl])
              have HWT2 := Lib.hid (show E'.wait.length ≤ D.wait.length + 13 * (j + 1) by have := HWT.out; have := HN.out; omega)
              clear hz1 hz2 hz3 hwt
              go_wp2_with fail
              exact ⟨⟨j + 1, Z, E', by omega, by go_num, HZ1, HZ2, HZ3, HRUN3, HWT2⟩, by simp [intOf]; omega⟩
            · have e0 : errV m = .iface 101 (.int .i64 (m : Int)) := by simp [errV, hm0]
              have hend : addL L D l = (m, E', L) := by rw [HADD.out, HRUN2.out, if_neg hm0, if_neg hm0]
              have HEND := Lib.hid hend
              have E0 := Lib.hid e0
              rw [e0]
              clear e0 hend hwt
              obtain ⟨Z, hz1, hz2, hz3⟩ := HDONE.out
              have hres : AddRes w b db X (addL L D l).2.1 (addL L D l).2.2 w6 := by
                rw [HEND.out]
                have hfr6 : Frame X w w6 := (HFRW.out.then' HFR.out (fun k hk => .inl hk)).then' hz2 (fun k hk => (HFS.out k hk).imp id (Nat.le_trans HB5.out.size))
                exact ⟨Z, hz1, hfr6.heap HL.out HB.out, hfr6.mono (fun k hk => List.mem_cons_of_mem _ hk), fun k hk => ((HFS.out.trans hz3 HFR.out.size) k hk).imp id (Nat.le_trans HB5.out.size)⟩
              have HRES := Lib.hid hres
              clear hres hz1 hz2 hz3
              go_wp2_with fail
              go_ret
              exact Ret.of (by rw [HEND.out]; exact E0.out.symm) HRES.out
        · obtain rfl : j = 4 := by omega
          have hrun : addRun L l D [0, 1, 2, 3] = (0, E) := by rw [HRUN.out]; rfl
          have hend : addL L D l = (0, E, { L with next := L.next + l.length + 1 }) := by rw [HADD.out, hrun, if_pos rfl]
          have HEND := Lib.hid hend
          have l4 := (LogAt.cells HLr.out).2.2.2.2
          clear hrun hend
          have s5 : IntKind.i64.wrap ((L.next : Int) + (k : Int) + 1) = (L.next : Int) + (k : Int) + 1 := IntWalk.i64_in _ (by omega)
          have hres : AddRes w b db X (addL L D l).2.1 (addL L D l).2.2 (wr.setCell ⟨b, 4, none⟩ (.int .i64 ((L.next : Int) + (k : Int) + 1))) := by
            rw [HEND.out]
            have hfr : Frame X w wr := HFRW.out.then' HFR.out (fun k hk => .inl hk)
            have hb : Frame [b] wr (wr.setCell ⟨b, 4, none⟩ (.int .i64 ((L.next : Int) + (k : Int) + 1))) := (Frame.refl _ wr).set (.inl (by simp)) _
            refine ⟨Y, HE.out.frame hb (fun q hq hc => HBY.out (by simp at hc; rwa [← hc])), ?_, (hfr.mono (fun q hq => List.mem_cons_of_mem _ hq)).trans (hb.mono (by simp)), fun q hq => (HFS.out q hq).imp id (Nat.le_trans HB5.out.size)⟩
            unfold LogAt
            rw [heap_set_same 4 _ HLr.out, show ((L.next + l.length + 1 : Nat) : Int) = (L.next : Int) + (k : Int) + 1 by have := HN.out; omega]
            rfl
          have HRES := Lib.hid hres
          clear hres
          go_wp2_with fail
          go_ret
          exact Ret.of (by rw [HEND.out]; rfl) HRES.out

end Go.Proofs.Ytkapmpngglibjaa
