/- Several texts in one: what each begins with says what it shows. Conditions: each law's own premises. -/
import Derived.Test.YtkapmpngglibjaaQ15

/- Room and Next of a log; the sectors of a deed are laid. Conditions: each contract's own premises. -/
namespace Go.Proofs.Ytkapmpngglibjaa
open Go Go.RowKit

set_option maxHeartbeats 1000000 in
theorem room_any (b db : Nat) (L : LM) (w : World) (hL : LogAt w b db L) (h1 : L.many ≤ 1000) (h2 : L.next ≤ 1000) :
    Calls Try.prog 45 #[.pointer (some ⟨b, 0, none⟩)] w (Ret (.int .i64 ((L.many : Int) - (L.next : Int))) fun w' => ∃ n, w' = w.drewN n) := by
  obtain ⟨l0, l1, l2, l3, l4⟩ := hL.cells
  obtain ⟨fr, many, first, next⟩ := L
  simp only at *
  have a0 : (0 : Int) ≤ (many : Int) := by omega
  have a1 : (many : Int) ≤ 1000 := by omega
  have b0 : (0 : Int) ≤ (next : Int) := by omega
  have b1 : (next : Int) ≤ 1000 := by omega
  have hwr : IntKind.i64.wrap ((many : Int) - (next : Int)) = (many : Int) - (next : Int) := IntWalk.i64_in _ (by omega)
  clear hL
  go_enter Try.func45, Try.ntmps45
  go_wp2_with fail
  go_quiet (fail)
  go_wp2_with fail
  go_ret
  exact Ret.of rfl ⟨_, rfl⟩

set_option maxHeartbeats 1000000 in
theorem next_any (b db : Nat) (L : LM) (w : World) (hL : LogAt w b db L) (h1 : L.many ≤ 1000) (h2 : L.first < 1073741824) :
    Calls Try.prog 52 #[.pointer (some ⟨b, 0, none⟩)] w (Ret (.int .i64 ((L.first : Int) + (L.many : Int))) fun w' => ∃ n, w' = w.drewN n) := by
  obtain ⟨l0, l1, l2, l3, l4⟩ := hL.cells
  obtain ⟨fr, many, first, next⟩ := L
  simp only at *
  have a0 : (0 : Int) ≤ (many : Int) := by omega
  have a1 : (many : Int) ≤ 1000 := by omega
  have b0 : (0 : Int) ≤ (first : Int) := by omega
  have b1 : (first : Int) < 1073741824 := by omega
  have hwr : IntKind.i64.wrap ((first : Int) + (many : Int)) = (first : Int) + (many : Int) := IntWalk.i64_in _ (by omega)
  clear hL
  go_enter Try.func52, Try.ntmps52
  go_wp2_with fail
  go_quiet (fail)
  clear b1
  go_wp2_with fail
  go_ret
  exact Ret.of rfl ⟨_, rfl⟩

/-! ### the sectors of a deed are laid -/

def layD (L : LM) : DM → Nat → List Chg → Nat × DM
  | D, _, [] => (0, D)
  | D, i, c :: l =>
    if (D.write ((L.from_ + L.next + i : Nat) : Int) (textB 111 (L.first + L.next + i) (bytesOf c))).1 = 0 then
      layD L (D.write ((L.from_ + L.next + i : Nat) : Int) (textB 111 (L.first + L.next + i) (bytesOf c))).2 (i + 1) l
    else D.write ((L.from_ + L.next + i : Nat) : Int) (textB 111 (L.first + L.next + i) (bytesOf c))

def layL (L : LM) (D : DM) (l : List Chg) : Nat × DM :=
  if (layD L D 0 l).1 = 0 then
    if L.next + l.length + 1 < L.many then (layD L D 0 l).2.write ((L.from_ + (L.next + l.length + 1) : Nat) : Int) ⟨#[]⟩ else layD L D 0 l
  else layD L D 0 l

theorem DM.wr_len (D : DM) (i : Int) (s : ByteArray) : (D.write i s).2.now.length = D.now.length := by
  unfold DM.write
  split
  · rfl
  · split
    · simp [DM.put, D.step_now.1]
    · simp [D.step_now.1]

theorem DM.wr_wait (D : DM) (i : Int) (s : ByteArray) : (D.write i s).2.wait.length ≤ D.wait.length + 1 := by
  unfold DM.write
  split
  · simp
  · split
    · simp [DM.put, D.step_now.2.1]
    · simp [D.step_now.2.1]

theorem bytesOf_size (c : Chg) : (bytesOf c).size ≤ 94 := by
  unfold bytesOf
  split
  · rename_i h
    unfold faultOf at h
    split at h
    · cases h
    · split at h
      · cases h
      · rename_i h1 h2
        simp only [rawOf, ByteArray.size_append]
        have : (⟨#[if c.gone = true then 1 else 0, UInt8.ofNat c.key.size]⟩ : ByteArray).size = 2 := rfl
        omega
  · exact Nat.zero_le _

/-- The disk behind some more writes: in other blocks too. -/
def DiskRes (w : World) (db : Nat) (X : List Nat) (D : DM) (w' : World) : Prop := ∃ Y, DiskAt w' 107 111 db Y D ∧ Frame X w w' ∧ Fresh w X Y

set_option maxHeartbeats 4000000 in
set_option maxRecDepth 100000 in
theorem lay_any (b db : Nat) (X : List Nat) (D : DM) (L : LM) (v : Value) (l : List Chg) (w : World) (hD : DiskAt w 107 111 db X D) (hL : LogAt w b db L) (hb : b ∉ X) (hV : ChgP (fun k => k ∉ X) w v l)
    (hf : ∀ c ∈ l, faultOf c = 0) (h1 : L.from_ + L.many ≤ 130) (h2 : L.next + l.length + 1 ≤ L.many) (h3 : L.first < 1073741824) (hw : D.wait.length + l.length < 9000) :
    Calls Try.prog 85 #[.pointer (some ⟨b, 0, none⟩), v] w (Ret (errV (layL L D l).1) (DiskRes w db X (layL L D l).2)) := by
  obtain ⟨ao, cap, rfl, hm, hr⟩ := hV
  have HL := Lib.hid hL
  obtain ⟨l0, l1, l2, l3, l4⟩ := hL.cells
  obtain ⟨n, hnn⟩ : ∃ n, n = l.length := ⟨_, rfl⟩
  have HN := Lib.hid hnn
  have HR := Lib.hid hr
  have HD := Lib.hid hD
  have HF := Lib.hid hf
  have HW := Lib.hid hw
  have HB := Lib.hid hb
  have H3 := Lib.hid h3
  rw [← hnn] at h2 ⊢
  clear hL hr hD hf hw hb hm h3 hnn
  have hz : ∀ i, w.frozen? ⟨b, i, none⟩ = false := fun i => frozen_of HL.out i
  clear hz
  have n0 : (0 : Int) ≤ (n : Int) := by omega
  have n1 : (n : Int) ≤ 130 := by omega
  have f0 : (0 : Int) ≤ (L.from_ : Int) := by omega
  have f1 : (L.from_ : Int) ≤ 130 := by omega
  have x0 : (0 : Int) ≤ (L.next : Int) := by omega
  have x1 : (L.next : Int) ≤ 130 := by omega
  have hwr : IntKind.i64.wrap ((L.from_ : Int) + (L.next : Int)) = (L.from_ : Int) + (L.next : Int) := IntWalk.i64_in _ (by omega)
  go_enter Try.func85, Try.ntmps85
  go_wp2_with fail
  go_quiet (fail)
  clear hwr
  go_wp2_with fail
  have HFR0 := Lib.hid (show Frame X w (w.drewN nq) from (Frame.refl X w).drewN nq)
  have HDQ := Lib.hid (HD.out.drewN nq)
  clear l0 l1 l2 l3 l4
  generalize w.drewN nq = wq at HFR0 HDQ ⊢
  go_loopw [22] (fun i wr => ∃ (k : Nat) (Y : List Nat) (E : DM), k ≤ n ∧ i = .int .i64 (k : Int) ∧ Hid (DiskAt wr 107 111 db Y E) ∧ Hid (Frame X w wr) ∧ Hid (Fresh w X Y) ∧ Hid (layD L D 0 l = layD L E k (l.drop k)) ∧
    Hid (E.now.length = D.now.length ∧ E.wait.length ≤ D.wait.length + k)) (fun i _ => n - (intOf i).toNat)
  case atStart => exact ⟨0, X, D, Nat.zero_le _, rfl, HDQ, HFR0, Fresh.refl w X, rfl, rfl, Nat.le_refl _⟩
  case round =>
    clear HDQ HFR0
    obtain ⟨k, Y, E, hk, rfl, HE, HFR, HFS, HLY, HEW⟩ := hrel
    have k0 : (0 : Int) ≤ (k : Int) := by omega
    have k2 : (k : Int) ≤ 130 := by omega
    by_cases hlt : k < n
    · have k1 : (k : Int) < (n : Int) := by omega
      obtain ⟨⟨ck, cv, cg⟩, hc⟩ : ∃ a, l[k]? = some a := ⟨_, List.getElem?_eq_getElem (by rw [← HN.out]; exact hlt)⟩
      obtain ⟨b1, off, rfl, hbX, c0, c1, c2⟩ := HR.out k _ hc
      have hfl : faultOf ⟨ck, cv, cg⟩ = 0 := HF.out _ (List.mem_of_getElem? hc)
      have hly : layD L E k (l.drop k) = layD L E k (⟨ck, cv, cg⟩ :: l.drop (k + 1)) := by
        obtain ⟨h1, h2⟩ := List.getElem?_eq_some_iff.1 hc
        rw [List.drop_eq_getElem_cons h1, h2]
      rw [layD] at hly
      have HLY2 := Lib.hid hly
      have HFL := Lib.hid hfl
      have d0 := HFR.out.cell c0 hbX
      have d1 := HFR.out.cell c1 hbX
      have d2 := HFR.out.cell c2 hbX
      clear hc hly hfl c0 c1 c2
      go_wp2_with fail
      have hdc := heap_alloc_new wr (.cells #[.string ck, .string cv, .bool cg] 64)
      have HWA := Lib.hid ((Below.refl _ wr).alloc (Nat.le_refl _) (.cells #[.string ck, .string cv, .bool cg] 64))
      refine (bytes_any ck cv cg _).mono ?_
      rintro e w3 ⟨rfl, hB3⟩
      rw [HFL.out]
      have HB3 := Lib.hid (HWA.out.trans (hB3.mono (by rw [size_alloc]; omega)))
      clear hB3 hdc d0 d1 d2
      have hby := bytesOf_size ⟨ck, cv, cg⟩
      generalize bytesOf ⟨ck, cv, cg⟩ = by1 at *
      have e0 : errV 0 = .nilIface := rfl
      rw [e0]
      clear e0
      have hL3 : LogAt w3 b db L := (HB3.out.block _ (lt_of_heap (HFR.out.heap HL.out HB.out))).trans (HFR.out.heap HL.out HB.out)
      have HL3 := Lib.hid hL3
      have LCELLS := Lib.hid (fun w2 (hT : Below w3.heap.size w3 w2) => LogAt.cells (L := L) (w := w2) ((hT.block _ (lt_of_heap hL3)).trans hL3))
      clear hL3
      have s1 : IntKind.i64.wrap ((L.from_ : Int) + (L.next : Int) + (k : Int)) = (L.from_ : Int) + (L.next : Int) + (k : Int) := IntWalk.i64_in _ (by omega)
      have s2 : IntKind.i64.wrap ((L.first : Int) + (L.next : Int)) = (L.first : Int) + (L.next : Int) := IntWalk.i64_in _ (by have := H3.out; omega)
      have s3 : IntKind.i64.wrap ((L.first : Int) + (L.next : Int) + (k : Int)) = ((L.first + L.next + k : Nat) : Int) := by rw [IntWalk.i64_in _ (by have := H3.out; omega)]; omega
      go_wp2_with fail
      refine wp_region_plan (fun w2 => Below w3.heap.size w3 w2) 85 [([0, 4, 5, 7, 11, 16, 18, 1, 6, 8, 12, 2, 9, 13, 3, 10, 14, 15, 17], [19], true), ([], [20, 21], false)] (by kernel_rfl) (by kernel_rfl) ?_
      apply wpStages_keep
      case hT => exact (Below.refl _ _).drew
      case hn => exact Nat.le_refl _
      case hq =>
        intro w2 hT
        obtain ⟨l0, l1, l2, l3, l4⟩ := LCELLS.out w2 hT
        simp only [picked, List.filterMap_cons, List.filterMap_nil, List.getElem?_cons_zero, List.getElem?_cons_succ]
        with_reducible refine wpStill_want ?hw (fun K hK => ?_)
        case hw => kernel_rfl
        (go_simp; refine hK _ ?_; clear hK K)
        with_reducible refine wpStill_want ?hw (fun K hK => ?_)
        case hw => kernel_rfl
        (go_simp; refine hK _ ?_; clear hK K)
        with_reducible refine wpStill_want ?hw (fun K hK => ?_)
        case hw => kernel_rfl
        (go_simp; refine hK _ ?_; clear hK K)
        with_reducible refine wpStill_want ?hw (fun K hK => ?_)
        case hw => kernel_rfl
        (go_simp; refine hK _ ?_; clear hK K)
        with_reducible refine wpStill_want ?hw (fun K hK => ?_)
        case hw => kernel_rfl
        (go_simp; refine hK _ ?_; clear hK K)
        with_reducible refine wpStill_want ?hw (fun K hK => ?_)
        case hw => kernel_rfl
        (go_simp; refine hK _ ?_; clear hK K)
        with_reducible refine wpStill_want ?hw (fun K hK => ?_)
        case hw => kernel_rfl
        (go_simp; refine hK _ ?_; clear hK K)
        with_reducible refine wpStill_want ?hw (fun K hK => ?_)
        case hw => kernel_rfl
        (go_simp; refine hK _ ?_; clear hK K)
        with_reducible refine wpStill_want ?hw (fun K hK => ?_)
        case hw => kernel_rfl
        (go_simp; refine hK _ ?_; clear hK K)
        with_reducible refine wpStill_want ?hw (fun K hK => ?_)
        case hw => kernel_rfl
        (go_simp; refine hK _ ?_; clear hK K)
        with_reducible refine wpStill_want ?hw (fun K hK => ?_)
        case hw => kernel_rfl
        (go_simp; refine hK _ ?_; clear hK K)
        with_reducible refine wpStill_want ?hw (fun K hK => ?_)
        case hw => kernel_rfl
        (go_simp; refine hK _ ?_; clear hK K)
        with_reducible refine wpStill_want ?hw (fun K hK => ?_)
        case hw => kernel_rfl
        (go_simp; refine hK _ ?_; clear hK K)
        with_reducible refine wpStill_want ?hw (fun K hK => ?_)
        case hw => kernel_rfl
        (go_simp; refine hK _ ?_; clear hK K)
        with_reducible refine wpStill_want ?hw (fun K hK => ?_)
        case hw => kernel_rfl
        (go_simp; refine hK _ ?_; clear hK K)
        with_reducible refine wpStill_want ?hw (fun K hK => ?_)
        case hw => kernel_rfl
        (go_simp; refine hK _ ?_; clear hK K)
        with_reducible refine wpStill_want ?hw (fun K hK => ?_)
        case hw => kernel_rfl
        (go_simp; refine hK _ ?_; clear hK K)
        with_reducible refine wpStill_want ?hw (fun K hK => ?_)
        case hw => kernel_rfl
        (go_simp; refine hK _ ?_; clear hK K)
        with_reducible refine wpStill_want ?hw (fun K hK => ?_)
        case hw => kernel_rfl
        (go_simp; refine hK _ ?_; clear hK K)
        exact wpStill_nil rfl
      simp only [picked, List.filterMap_cons, List.filterMap_nil, List.getElem?_cons_zero, List.getElem?_cons_succ]
      clear s1 s2 s3
      go_wp2_with fail
      refine (text_any 111 (L.first + L.next + k) by1 _ (by omega) (by have := H3.out; omega) (by omega)).mono ?_
      rintro e w4 ⟨rfl, hB4⟩
      have hB5 : Below w3.heap.size w3 w4 := (Below.refl _ _).drew.trans hB4
      clear hB4
      go_wp2_with fail
      refine OnlyNormal.mk ⟨hB5, ?_⟩
      apply wpStages_seq
      simp only [picked, List.filterMap_cons, List.filterMap_nil, List.getElem?_cons_zero, List.getElem?_cons_succ]
      go_wp2_with fail
      have HB6 := Lib.hid (HB3.out.trans (hB5.mono HB3.out.size))
      clear hB5
      have HE4 := Lib.hid (HE.out.frame (Frame.of_below [] HB6.out) (by simp))
      generalize textB 111 (L.first + L.next + k) by1 = tx at *
      refine (write_any db Y E ((L.from_ + L.next + k : Nat) : Int) tx w4 HE4.out (by have := HEW.out; have := HW.out; have := HN.out; omega)).mono ?_
      rintro e w5 ⟨rfl, Z, hD5, hF5, hS5⟩
      have hlen := DM.wr_len E ((L.from_ + L.next + k : Nat) : Int) tx
      have hwt := DM.wr_wait E ((L.from_ + L.next + k : Nat) : Int) tx
      have HFR5 := Lib.hid ((HFR.out.trans (Frame.of_below X HB6.out)).then' hF5 HFS.out)
      have HFS5 := Lib.hid (HFS.out.trans hS5 (Nat.le_trans HFR.out.size HB6.out.size))
      have HEW5 := Lib.hid (show (E.write ((L.from_ + L.next + k : Nat) : Int) tx).2.now.length = D.now.length ∧ (E.write ((L.from_ + L.next + k : Nat) : Int) tx).2.wait.length ≤ D.wait.length + (k + 1) from
        ⟨hlen.trans HEW.out.1, by have := HEW.out.2; omega⟩)
      have HD5 := Lib.hid hD5
      clear hD5 hF5 hS5 hlen hwt
      generalize E.write ((L.from_ + L.next + k : Nat) : Int) tx = r at *
      obtain ⟨m, E'⟩ := r
      simp only at *
      by_cases hm0 : m = 0
      · subst hm0
        have e0 : errV 0 = .nilIface := rfl
        rw [e0]
        clear e0
        have HLY3 := Lib.hid (show layD L D 0 l = layD L E' (k + 1) (l.drop (k + 1)) by rw [HLY.out, HLY2.out]; rfl)
        go_wp2_with fail
        refine OnlyNormal.mk (wpStages_nil ?_)
        go_wp2_with fail
        exact ⟨⟨k + 1, Z, E', by omega, by go_num, HD5, HFR5, HFS5, HLY3, HEW5⟩, by simp [intOf]; omega⟩
      · have e0 : errV m = .iface 101 (.int .i64 (m : Int)) := by simp [errV, hm0]
        have hend : layL L D l = (m, E') := by
          have h : layD L D 0 l = (m, E') := by rw [HLY.out, HLY2.out, if_neg hm0]
          rw [layL, h, if_neg hm0]
        have HEND := Lib.hid hend
        have E0 := Lib.hid e0
        rw [e0]
        clear e0 hend
        go_wp2_with fail
        refine OnlyNormal.mk (wpStages_nil ?_)
        go_wp2_with fail
        go_ret
        exact Ret.of (by rw [HEND.out]; exact E0.out.symm) ⟨Z, by rw [HEND.out]; exact HD5.out, HFR5.out, HFS5.out⟩
    · obtain rfl : k = n := by omega
      have hly : layD L D 0 l = (0, E) := by
        rw [HLY.out, List.drop_of_length_le (by rw [← HN.out]; exact Nat.le_refl _)]
        rfl
      have HLY2 := Lib.hid hly
      clear hly
      have hLr : LogAt wr b db L := HFR.out.heap HL.out HB.out
      have HLr := Lib.hid hLr
      obtain ⟨l0, l1, l2, l3, l4⟩ := hLr.cells
      clear hLr
      have s1 : IntKind.i64.wrap ((L.next : Int) + (k : Int)) = (L.next : Int) + (k : Int) := IntWalk.i64_in _ (by omega)
      have s2 : IntKind.i64.wrap ((L.next : Int) + (k : Int) + 1) = (L.next : Int) + (k : Int) + 1 := IntWalk.i64_in _ (by omega)
      by_cases hfit : L.next + k + 1 < L.many
      · have hfit' : (L.next : Int) + (k : Int) + 1 < (L.many : Int) := by omega
        have hm1 : (L.many : Int) ≤ 130 := by omega
        have s3 : IntKind.i64.wrap ((L.from_ : Int) + ((L.next : Int) + (k : Int) + 1)) = ((L.from_ + (L.next + k + 1) : Nat) : Int) := by rw [IntWalk.i64_in _ (by omega)]; omega
        go_wp2_with fail
        refine wp_region_plan (fun w2 => w2 = wr.drew) 85 [([0, 4, 8, 1, 5, 2, 6, 3, 7, 9], [10, 11], false)] (by kernel_rfl) (by kernel_rfl) ?_
        apply wpStages_last
        case hT => rfl
        case hn => exact Nat.le_refl _
        case hq =>
          rintro w2 rfl
          simp only [picked, List.filterMap_cons, List.filterMap_nil, List.getElem?_cons_zero, List.getElem?_cons_succ]
          with_reducible refine wpStill_want ?hw (fun K hK => ?_)
          case hw => kernel_rfl
          (go_simp; refine hK _ ?_; clear hK K)
          with_reducible refine wpStill_want ?hw (fun K hK => ?_)
          case hw => kernel_rfl
          (go_simp; refine hK _ ?_; clear hK K)
          with_reducible refine wpStill_want ?hw (fun K hK => ?_)
          case hw => kernel_rfl
          (go_simp; refine hK _ ?_; clear hK K)
          with_reducible refine wpStill_want ?hw (fun K hK => ?_)
          case hw => kernel_rfl
          (go_simp; refine hK _ ?_; clear hK K)
          with_reducible refine wpStill_want ?hw (fun K hK => ?_)
          case hw => kernel_rfl
          (go_simp; refine hK _ ?_; clear hK K)
          with_reducible refine wpStill_want ?hw (fun K hK => ?_)
          case hw => kernel_rfl
          (go_simp; refine hK _ ?_; clear hK K)
          with_reducible refine wpStill_want ?hw (fun K hK => ?_)
          case hw => kernel_rfl
          (go_simp; refine hK _ ?_; clear hK K)
          with_reducible refine wpStill_want ?hw (fun K hK => ?_)
          case hw => kernel_rfl
          (go_simp; refine hK _ ?_; clear hK K)
          with_reducible refine wpStill_want ?hw (fun K hK => ?_)
          case hw => kernel_rfl
          (go_simp; refine hK _ ?_; clear hK K)
          with_reducible refine wpStill_want ?hw (fun K hK => ?_)
          case hw => kernel_rfl
          (go_simp; refine hK _ ?_; clear hK K)
          exact wpStill_nil rfl
        simp only [picked, List.filterMap_cons, List.filterMap_nil, List.getElem?_cons_zero, List.getElem?_cons_succ]
        clear s1 s2 s3 l0 l1 l2 l3 l4
        go_wp2_with fail
        refine (write_any db Y E ((L.from_ + (L.next + k + 1) : Nat) : Int) ⟨#[]⟩ wr.drew HE.out.drew (by have := HEW.out; have := HW.out; have := HN.out; omega)).mono ?_
        rintro e w5 ⟨rfl, Z, hD5, hF5, hS5⟩
        have hend : layL L D l = E.write ((L.from_ + (L.next + k + 1) : Nat) : Int) ⟨#[]⟩ := by
          rw [layL, HLY2.out, if_pos rfl, if_pos (by rw [← HN.out]; exact hfit), ← HN.out]
        have hdone : DiskRes w db X (layL L D l).2 w5 := ⟨Z, by rw [hend]; exact hD5, HFR.out.drew.then' hF5 HFS.out, HFS.out.trans hS5 HFR.out.size⟩
        have HEND := Lib.hid hend
        have HDONE := Lib.hid hdone
        clear hend hD5 hF5 hS5 hdone
        generalize E.write ((L.from_ + (L.next + k + 1) : Nat) : Int) ⟨#[]⟩ = r at HEND ⊢
        go_wp2_with fail
        refine OnlyNormal.mk ?_
        go_wp2_with fail
        go_ret
        exact Ret.of (by rw [HEND.out]; rfl) HDONE.out
      · have hfit' : ¬ (L.next : Int) + (k : Int) + 1 < (L.many : Int) := by omega
        have hend : layL L D l = (0, E) := by rw [layL, HLY2.out, if_pos rfl, if_neg (by rw [← HN.out]; exact hfit)]
        have HEND := Lib.hid hend
        clear hend
        go_wp2_with fail
        go_ret
        exact Ret.of (by rw [HEND.out]; rfl) ⟨Y, by rw [HEND.out]; exact HE.out, HFR.out, HFS.out⟩

end Go.Proofs.Ytkapmpngglibjaa

/- The closures of Log.Add. Conditions: each contract's own premises. -/
namespace Go.Proofs.Ytkapmpngglibjaa
open Go Go.RowKit

/-- The end of a deed is laid. -/
def closeD (L : LM) (n : Nat) (D : DM) : Nat × DM := D.write ((L.from_ + (L.next + n) : Nat) : Int) (textB 99 (L.first + (L.next + n)) (fourB n))

set_option maxHeartbeats 2000000 in
set_option maxRecDepth 100000 in
theorem closure84 (p2 p3 b db : Nat) (X : List Nat) (D : DM) (L : LM) (v : Value) (l : List Chg) (w : World) (hp2 : w.cell? ⟨p2, 0, none⟩ = some (.pointer (some ⟨b, 0, none⟩))) (hp3 : w.cell? ⟨p3, 0, none⟩ = some v)
    (hD : DiskAt w 107 111 db X D) (hL : LogAt w b db L) (hb : b ∉ X) (hV : ChgP (fun k => k ∉ X) w v l)
    (hf : ∀ c ∈ l, faultOf c = 0) (h1 : L.from_ + L.many ≤ 130) (h2 : L.next + l.length + 1 ≤ L.many) (h3 : L.first < 1073741824) (hw : D.wait.length + l.length < 9000) :
    Calls Try.prog 84 #[.pointer (some ⟨p2, 0, none⟩), .pointer (some ⟨p3, 0, none⟩)] w (Ret (errV (layL L D l).1) (DiskRes w db X (layL L D l).2)) := by
  have HLAY := Lib.hid (lay_any b db X D L v l w hD hL hb hV hf h1 h2 h3 hw)
  obtain ⟨ao, cap, rfl⟩ : ∃ ao cap, v = .slice ao l.length cap := by
    obtain ⟨ao, cap, rfl, -⟩ := hV
    exact ⟨ao, cap, rfl⟩
  clear hD hL hV hf hw h3
  go_enter Try.func84, Try.ntmps84
  go_wp2_with fail
  refine HLAY.out.mono ?_
  rintro e w1 ⟨rfl, hd⟩
  have HDONE := Lib.hid hd
  clear hd HLAY
  generalize layL L D l = r at *
  go_wp2_with fail
  go_ret
  exact Ret.of rfl HDONE.out

set_option maxHeartbeats 4000000 in
set_option maxRecDepth 100000 in
theorem closure86 (p2 p8 p3 b db : Nat) (X : List Nat) (D : DM) (L : LM) (v : Value) (l : List Chg) (w : World) (hp2 : w.cell? ⟨p2, 0, none⟩ = some (.pointer (some ⟨b, 0, none⟩))) (hp3 : w.cell? ⟨p3, 0, none⟩ = some v)
    (hp8 : w.cell? ⟨p8, 0, none⟩ = some (.int .i64 ((L.next : Int) + (l.length : Int)))) (hD : DiskAt w 107 111 db X D) (hL : LogAt w b db L) (hV : ChgP (fun k => k ∉ X) w v l)
    (h1 : L.from_ + L.many ≤ 130) (h2 : L.next + l.length + 1 ≤ L.many) (h3 : L.first < 1073741824) (hw : D.wait.length < 9000) :
    Calls Try.prog 86 #[.pointer (some ⟨p2, 0, none⟩), .pointer (some ⟨p8, 0, none⟩), .pointer (some ⟨p3, 0, none⟩)] w (Ret (errV (closeD L l.length D).1) (DiskRes w db X (closeD L l.length D).2)) := by
  obtain ⟨ao, cap, rfl⟩ : ∃ ao cap, v = .slice ao l.length cap := by
    obtain ⟨ao, cap, rfl, -⟩ := hV
    exact ⟨ao, cap, rfl⟩
  obtain ⟨n, hnn⟩ : ∃ n, n = l.length := ⟨_, rfl⟩
  rw [← hnn] at h2 hp3 hp8 ⊢
  have HD := Lib.hid hD
  have HL := Lib.hid hL
  have H3 := Lib.hid h3
  have CELLS := Lib.hid (fun w2 (hT : Below w.heap.size w w2) => And.intro (LogAt.cells (L := L) (w := w2) ((hT.block _ (lt_of_heap hL)).trans hL))
    (show w2.cell? ⟨p2, 0, none⟩ = some (.pointer (some ⟨b, 0, none⟩)) ∧ w2.cell? ⟨p3, 0, none⟩ = some (.slice ao n cap) ∧ w2.cell? ⟨p8, 0, none⟩ = some (.int .i64 ((L.next : Int) + (n : Int))) from
      ⟨(hT.cell (World.block_lt_of_cell? w _ hp2)).trans hp2, (hT.cell (World.block_lt_of_cell? w _ hp3)).trans hp3, (hT.cell (World.block_lt_of_cell? w _ hp8)).trans hp8⟩))
  clear hD hL hV h3 hnn hp2 hp3 hp8
  have n0 : (0 : Int) ≤ (n : Int) := by omega
  have n1 : (n : Int) ≤ 130 := by omega
  have f0 : (0 : Int) ≤ (L.from_ : Int) := by omega
  have f1 : (L.from_ : Int) ≤ 130 := by omega
  have x0 : (0 : Int) ≤ (L.next : Int) := by omega
  have x1 : (L.next : Int) ≤ 130 := by omega
  have s1 : IntKind.i64.wrap ((L.from_ : Int) + ((L.next : Int) + (n : Int))) = ((L.from_ + (L.next + n) : Nat) : Int) := by rw [IntWalk.i64_in _ (by omega)]; omega
  have s2 : IntKind.i64.wrap ((L.first : Int) + ((L.next : Int) + (n : Int))) = ((L.first + (L.next + n) : Nat) : Int) := by rw [IntWalk.i64_in _ (by have := H3.out; omega)]; omega
  go_enter Try.func86, Try.ntmps86
  go_wp2_with fail
  refine wp_region_plan (fun w2 => Below w.heap.size w w2) 25 [([0, 4, 8, 10, 14, 16, 1, 5, 11, 17, 2, 6, 12, 3, 7, 13, 9, 15], [18], true), ([], [19], true), ([], [20, 21], false)] (by kernel_rfl) (by kernel_rfl) ?_
  apply wpStages_keep
  case hT => exact (Below.refl _ _).drew
  case hn => exact Nat.le_refl _
  case hq =>
    intro w2 hT
    obtain ⟨⟨l0, l1, l2, l3, l4⟩, p2c, p3c, p8c⟩ := CELLS.out w2 hT
    simp only [picked, List.filterMap_cons, List.filterMap_nil, List.getElem?_cons_zero, List.getElem?_cons_succ]
    with_reducible refine wpStill_want ?hw (fun K hK => ?_)
    case hw => kernel_rfl
    (go_simp; refine hK _ ?_; clear hK K)
    with_reducible refine wpStill_want ?hw (fun K hK => ?_)
    case hw => kernel_rfl
    (go_simp; refine hK _ ?_; clear hK K)
    with_reducible refine wpStill_want ?hw (fun K hK => ?_)
    case hw => kernel_rfl
    (go_simp; refine hK _ ?_; clear hK K)
    with_reducible refine wpStill_want ?hw (fun K hK => ?_)
    case hw => kernel_rfl
    (go_simp; refine hK _ ?_; clear hK K)
    with_reducible refine wpStill_want ?hw (fun K hK => ?_)
    case hw => kernel_rfl
    (go_simp; refine hK _ ?_; clear hK K)
    with_reducible refine wpStill_want ?hw (fun K hK => ?_)
    case hw => kernel_rfl
    (go_simp; refine hK _ ?_; clear hK K)
    with_reducible refine wpStill_want ?hw (fun K hK => ?_)
    case hw => kernel_rfl
    (go_simp; refine hK _ ?_; clear hK K)
    with_reducible refine wpStill_want ?hw (fun K hK => ?_)
    case hw => kernel_rfl
    (go_simp; refine hK _ ?_; clear hK K)
    with_reducible refine wpStill_want ?hw (fun K hK => ?_)
    case hw => kernel_rfl
    (go_simp; refine hK _ ?_; clear hK K)
    with_reducible refine wpStill_want ?hw (fun K hK => ?_)
    case hw => kernel_rfl
    (go_simp; refine hK _ ?_; clear hK K)
    with_reducible refine wpStill_want ?hw (fun K hK => ?_)
    case hw => kernel_rfl
    (go_simp; refine hK _ ?_; clear hK K)
    with_reducible refine wpStill_want ?hw (fun K hK => ?_)
    case hw => kernel_rfl
    (go_simp; refine hK _ ?_; clear hK K)
    with_reducible refine wpStill_want ?hw (fun K hK => ?_)
    case hw => kernel_rfl
    (go_simp; refine hK _ ?_; clear hK K)
    with_reducible refine wpStill_want ?hw (fun K hK => ?_)
    case hw => kernel_rfl
    (go_simp; refine hK _ ?_; clear hK K)
    with_reducible refine wpStill_want ?hw (fun K hK => ?_)
    case hw => kernel_rfl
    (go_simp; refine hK _ ?_; clear hK K)
    with_reducible refine wpStill_want ?hw (fun K hK => ?_)
    case hw => kernel_rfl
    (go_simp; refine hK _ ?_; clear hK K)
    with_reducible refine wpStill_want ?hw (fun K hK => ?_)
    case hw => kernel_rfl
    (go_simp; refine hK _ ?_; clear hK K)
    with_reducible refine wpStill_want ?hw (fun K hK => ?_)
    case hw => kernel_rfl
    (go_simp; refine hK _ ?_; clear hK K)
    exact wpStill_nil rfl
  simp only [picked, List.filterMap_cons, List.filterMap_nil, List.getElem?_cons_zero, List.getElem?_cons_succ]
  clear s1 s2
  go_wp2_with fail
  refine (four_any n _ (by omega)).mono ?_
  rintro e w3 ⟨rfl, hB3⟩
  have hB4 : Below w.heap.size w w3 := (Below.refl _ _).drew.trans hB3
  clear hB3
  go_wp2_with fail
  refine OnlyNormal.mk ⟨hB4, ?_⟩
  apply wpStages_seqkeep
  simp only [picked, List.filterMap_cons, List.filterMap_nil, List.getElem?_cons_zero, List.getElem?_cons_succ]
  go_wp2_with fail
  refine (text_any 99 (L.first + (L.next + n)) (fourB n) _ (by omega) (by have := H3.out; omega) (by rw [show (fourB n).size = 4 from rfl]; omega)).mono ?_
  rintro e w4 ⟨rfl, hB5⟩
  have hB6 : Below w.heap.size w w4 := hB4.trans (hB5.mono hB4.size)
  clear hB4 hB5
  go_wp2_with fail
  refine OnlyNormal.mk ⟨hB6, ?_⟩
  apply wpStages_seq
  simp only [picked, List.filterMap_cons, List.filterMap_nil, List.getElem?_cons_zero, List.getElem?_cons_succ]
  go_wp2_with fail
  have HD6 := Lib.hid (HD.out.frame (Frame.of_below [] hB6) (by simp))
  have HF6 := Lib.hid (Frame.of_below X hB6)
  clear hB6
  refine (write_any db X D ((L.from_ + (L.next + n) : Nat) : Int) (textB 99 (L.first + (L.next + n)) (fourB n)) w4 HD6.out (by omega)).mono ?_
  rintro e w5 ⟨rfl, Z, hD5, hF5, hS5⟩
  have HDONE := Lib.hid (show DiskRes w db X (closeD L n D).2 w5 from ⟨Z, hD5, HF6.out.trans hF5, fun k hk => (hS5 k hk).imp id (fun h => Nat.le_trans HF6.out.size h)⟩)
  clear hD5 hF5 hS5
  have hcl : D.write ((L.from_ + (L.next + n) : Nat) : Int) (textB 99 (L.first + (L.next + n)) (fourB n)) = closeD L n D := rfl
  rw [hcl]
  clear hcl
  generalize closeD L n D = r at *
  go_wp2_with fail
  refine OnlyNormal.mk (wpStages_nil ?_)
  go_wp2_with fail
  go_ret
  exact Ret.of rfl HDONE.out

end Go.Proofs.Ytkapmpngglibjaa
