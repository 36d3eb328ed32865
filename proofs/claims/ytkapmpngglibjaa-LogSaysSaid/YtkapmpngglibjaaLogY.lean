/- The reference's ClosedDeeds: what a log says. Conditions: the contract's own premises. -/
import Derived.Test.YtkapmpngglibjaaLogX
import Derived.Test.YtkapmpngglibjaaFork
namespace Go.Proofs.Ytkapmpngglibjaa
open Go Go.RowKit

/-- What is known between two sectors. -/
structure ClRel (w wr : World) (first : Nat) (S : List ByteArray) (k : Nat) (out deed : Value) (d : List Chg) (o : List (List Chg)) (nx : Nat) : Prop where
  below : Below w.heap.size w wr
  scn : scan first 0 S [] [] 0 = scan first k (S.drop k) d o nx
  dlen : d.length ≤ k
  olen : o.length ≤ k
  nx : nx ≤ k
  rows : ∃ B vs, w.heap.size ≤ B ∧ B ≤ wr.heap.size ∧ wr.ownsRow B 64 3 deed d.length (flC d) ∧ wr.ownsRow (w.heap.size) 36 1 out o.length vs ∧ vs.length = o.length ∧
    ∀ (i : Nat) (u : Value) (x : List Chg), vs[i]? = some u → o[i]? = some x → wr.ownsRow (w.heap.size) 64 3 u x.length (flC x) ∧ ∀ g, u.ownBlock = some g → g < B

theorem ClRel.deeds {w wr : World} {first : Nat} {S : List ByteArray} {k : Nat} {out deed : Value} {d : List Chg} {o : List (List Chg)} {nx : Nat} (h : ClRel w wr first S k out deed d o nx) :
    DeedsP (fun k => w.heap.size ≤ k) wr out o := by
  obtain ⟨B, vs, -, -, -, ho, hl, hr⟩ := h.rows
  exact (DeedsP.of_owns ho hl (Nat.le_refl _) (fun i u x hu hx => (hr i u x hu hx).1)).mono fun k _ hk => by omega

/-- Worlds that keep all that there is. -/
theorem ClRel.later {w wr w' : World} {first : Nat} {S : List ByteArray} {k : Nat} {out deed : Value} {d : List Chg} {o : List (List Chg)} {nx : Nat} (h : ClRel w wr first S k out deed d o nx)
    (hb : Below wr.heap.size wr w') : ClRel w w' first S k out deed d o nx := by
  obtain ⟨B, vs, h1, h2, h3, h4, h5, h6⟩ := h.rows
  have hf := Frame.of_below [] hb
  exact ⟨h.below.trans (hb.mono h.below.size), h.scn, h.dlen, h.olen, h.nx,
    B, vs, h1, Nat.le_trans h2 hb.size, owns_frame h3 hf (by simp), owns_frame h4 hf (by simp), h5, fun i u x hu hx => ⟨owns_frame (h6 i u x hu hx).1 hf (by simp), (h6 i u x hu hx).2⟩⟩

/-- A change more in the deed that is open. -/
theorem ClRel.more {w wr w5 : World} {first : Nat} {S : List ByteArray} {k : Nat} {out deed deed' : Value} {d : List Chg} {o : List (List Chg)} {nx : Nat} (h : ClRel w wr first S k out deed d o nx)
    {B : Nat} {vs : List Value} (q1 : w.heap.size ≤ B) (q2 : B ≤ wr.heap.size) (q3 : wr.ownsRow B 64 3 deed d.length (flC d)) (q4 : wr.ownsRow (w.heap.size) 36 1 out o.length vs) (q5 : vs.length = o.length)
    (q6 : ∀ (i : Nat) (u : Value) (x : List Chg), vs[i]? = some u → o[i]? = some x → wr.ownsRow (w.heap.size) 64 3 u x.length (flC x) ∧ ∀ g, u.ownBlock = some g → g < B)
    (c : Chg) (hs : scan first k (S.drop k) d o nx = scan first (k + 1) (S.drop (k + 1)) (d ++ [c]) o nx) (hf : Frame deed.ownBlock.toList wr w5) (hd : w5.ownsRow B 64 3 deed' (d ++ [c]).length (flC (d ++ [c]))) :
    ClRel w w5 first S (k + 1) out deed' (d ++ [c]) o nx := by
  have hX : ∀ g, deed.ownBlock = some g → B ≤ g := fun g hg => (World.ownsRow.lt q3 g hg).1
  have hmem : ∀ g, g ∈ deed.ownBlock.toList → deed.ownBlock = some g := fun g hg => by simpa using hg
  refine ⟨h.below.trans (hf.below h.below.size fun g hg => by have := hX g (hmem g hg); omega), h.scn.trans hs, ?_, Nat.le_succ_of_le h.olen, Nat.le_succ_of_le h.nx,
    B, vs, q1, Nat.le_trans q2 hf.size, hd, owns_frame q4 hf (fun g hg hm => ?_), q5, fun i u x hu hx => ⟨owns_frame (q6 i u x hu hx).1 hf (fun g hg hm => ?_), (q6 i u x hu hx).2⟩⟩
  · have := h.dlen
    simp only [List.length_append, List.length_cons, List.length_nil]
    omega
  · obtain ⟨cur, hc⟩ := owns_lt q4 hg
    exact ownBlock_ne q3 hc (by decide) (hmem g hm)
  · have := (q6 i u x hu hx).2 g hg
    have := hX g (hmem g hm)
    omega

/-- A deed is closed. -/
theorem ClRel.close {w wr w5 : World} {first : Nat} {S : List ByteArray} {k : Nat} {out out' deed : Value} {d : List Chg} {o : List (List Chg)} {nx : Nat} (h : ClRel w wr first S k out deed d o nx)
    {B : Nat} {vs : List Value} (q1 : w.heap.size ≤ B) (q2 : B ≤ wr.heap.size) (q3 : wr.ownsRow B 64 3 deed d.length (flC d)) (q4 : wr.ownsRow (w.heap.size) 36 1 out o.length vs) (q5 : vs.length = o.length)
    (q6 : ∀ (i : Nat) (u : Value) (x : List Chg), vs[i]? = some u → o[i]? = some x → wr.ownsRow (w.heap.size) 64 3 u x.length (flC x) ∧ ∀ g, u.ownBlock = some g → g < B)
    (hs : scan first k (S.drop k) d o nx = scan first (k + 1) (S.drop (k + 1)) [] (o ++ [d]) (k + 1)) (hf : Frame out.ownBlock.toList wr w5) (ho : w5.ownsRow (w.heap.size) 36 1 out' (o ++ [d]).length (vs ++ [deed])) :
    ClRel w w5 first S (k + 1) out' (.slice none 0 0) [] (o ++ [d]) (k + 1) := by
  have hmem : ∀ g, g ∈ out.ownBlock.toList → out.ownBlock = some g := fun g hg => by simpa using hg
  have hX : ∀ g, out.ownBlock = some g → w.heap.size ≤ g := fun g hg => (World.ownsRow.lt q4 g hg).1
  have hfar : ∀ {s : Nat} {u : Value} {n : Nat} {xs : List Value}, wr.ownsRow (w.heap.size) 64 s u n xs → w5.ownsRow (w.heap.size) 64 s u n xs := fun hu =>
    owns_frame hu hf (fun g hg hm => by
      obtain ⟨cur, hc⟩ := owns_lt hu hg
      exact ownBlock_ne q4 hc (by decide) (hmem g hm))
  have hd1 := owns_base q3 q1
  refine ⟨h.below.trans (hf.below h.below.size fun g hg => hX g (hmem g hg)), h.scn.trans hs, Nat.zero_le _, ?_, Nat.le_refl _,
    wr.heap.size, vs ++ [deed], Nat.le_trans q1 q2, hf.size, World.ownsRow_nil _ _ _ _, ho, ?_, ?_⟩
  · have := h.olen
    simp only [List.length_append, List.length_cons, List.length_nil]
    omega
  · simp [q5]
  · intro i u x hu hx
    by_cases hi : i < o.length
    · rw [List.getElem?_append_left (by omega)] at hu hx
      exact ⟨hfar (q6 i u x hu hx).1, fun g hg => Nat.lt_of_lt_of_le ((q6 i u x hu hx).2 g hg) q2⟩
    · have hil : i = o.length := by
        have := (List.getElem?_eq_some_iff.1 hx).1
        simp at this
        omega
      subst hil
      rw [List.getElem?_append_right (Nat.le_refl _)] at hx
      rw [List.getElem?_append_right (by omega), q5] at hu
      simp at hu hx
      subst hu hx
      exact ⟨hfar hd1, fun g hg => (World.ownsRow.lt q3 g hg).2⟩


theorem scan_cons {first k : Nat} {s : ByteArray} {l : List ByteArray} {d : List Chg} {o : List (List Chg)} {nx kk : Nat} {tx : ByteArray} {ok : Bool} (h : lookOf s (first + k) = (kk, tx, ok)) :
    scan first k (s :: l) d o nx = if ok = true then if (kk == 99) = true then if (tx.toList == (fourB d.length).toList) = true then scan first (k + 1) l [] (o ++ [d]) (k + 1) else (o, nx)
      else if (parseOf tx).2 = 0 then scan first (k + 1) l (d ++ [(parseOf tx).1]) o nx else (o, nx) else (o, nx) := by
  rw [scan, h]

def ClRes (w : World) (r : List (List Chg) × Nat) (v : Value) (w' : World) : Prop :=
  ∃ vd, v = .tuple #[vd, .int .i64 (r.2 : Int)] ∧ DeedsP (fun k => w.heap.size ≤ k) w' vd r.1 ∧ Below w.heap.size w w'

set_option maxHeartbeats 4000000 in
set_option maxRecDepth 100000 in
theorem closed_any (v : Value) (S : List ByteArray) (first : Nat) (w : World) (base : Nat) (hv : w.ownsRow base 9 1 v S.length (S.map .string)) (hlen : S.length ≤ 130) (hsz : ∀ s ∈ S, s.size = 140) (hn : first < 1073741824) :
    Calls Try.prog 51 #[v, .int .i64 (first : Int)] w (RetV (ClRes w (scan first 0 S [] [] 0))) := by
  obtain ⟨i64, hi, hz0, hz1, hz2⟩ := info_parts info64
  obtain ⟨i36, gi, gz0, gz1, gz2⟩ := info_parts info36
  have hcell : ∀ (k : Nat) (s : ByteArray), S[k]? = some s → ∃ g cap, v = .slice (some ⟨g, 0, none⟩) S.length cap ∧ w.cell? ⟨g, k, none⟩ = some (.string s) := fun k s hs => by
    have hk := (List.getElem?_eq_some_iff.1 hs).1
    obtain ⟨g, cap, cur, rfl, h1, h2, h3, h4, h5, h6⟩ := owns_open hv (by omega)
    refine ⟨g, cap, rfl, ?_⟩
    rw [owns_cell hv (by omega), List.getElem?_map, hs]
    rfl
  obtain ⟨ao, cap, rfl⟩ := owns_form hv
  obtain ⟨n, hnn⟩ : ∃ n, n = S.length := ⟨_, rfl⟩
  rw [← hnn] at hlen hcell ⊢
  have HN := Lib.hid hnn
  have HCELL := Lib.hid hcell
  have HSZ := Lib.hid hsz
  have HFI := Lib.hid (fun (_ : Unit) => hn)
  have n0 : (0 : Int) ≤ (n : Int) := by omega
  have n1 : (n : Int) ≤ 130 := by omega
  have f0 : (0 : Int) ≤ (first : Int) := by omega
  have f1 : (first : Int) < 1073741824 := by omega
  have HF1 := Lib.hid (fun (_ : Unit) => f1)
  clear f1
  have hrel0 : ClRel w w first S 0 (.slice none 0 0) (.slice none 0 0) [] [] 0 :=
    ⟨Below.refl _ _, rfl, Nat.le_refl _, Nat.le_refl _, Nat.le_refl _, w.heap.size, [], Nat.le_refl _, Nat.le_refl _, World.ownsRow_nil _ _ _ _, World.ownsRow_nil _ _ _ _, rfl, fun i u x hu => by simp at hu⟩
  have HREL0 := Lib.hid hrel0
  clear hv hcell hsz hrel0 hn hnn
  go_enter Try.func51, Try.ntmps51
  go_wp2_with fail
  go_loopw [6, 7, 8, 9] (fun out deed used i wr => ∃ (k : Nat) (d : List Chg) (o : List (List Chg)) (nx : Nat), k ≤ n ∧ i = .int .i64 (k : Int) ∧ used = .int .i64 (nx : Int) ∧ Hid (ClRel w wr first S k out deed d o nx)) (fun _ _ _ i _ => n - (intOf i).toNat)
  case atStart => exact ⟨0, [], [], 0, Nat.zero_le _, rfl, rfl, HREL0⟩
  case round =>
    clear HREL0
    obtain ⟨k, d, o, nx, hk, rfl, rfl, HREL⟩ := hrel
    have k0 : (0 : Int) ≤ (k : Int) := by omega
    have k2 : (k : Int) ≤ 130 := by omega
    by_cases hlt : k < n
    · have k1 : (k : Int) < (n : Int) := by omega
      obtain ⟨s, hs⟩ : ∃ s, S[k]? = some s := ⟨_, List.getElem?_eq_getElem (by rw [← HN.out]; exact hlt)⟩
      obtain ⟨g, capv, hve, hc⟩ := HCELL.out k s hs
      cases hve
      have hs140 := HSZ.out s (List.mem_of_getElem? hs)
      have hdrop : S.drop k = s :: S.drop (k + 1) := by
        obtain ⟨h1, h2⟩ := List.getElem?_eq_some_iff.1 hs
        rw [List.drop_eq_getElem_cons h1, h2]
      have HSC := Lib.hid (fun (_ : Unit) => show scan first k (S.drop k) d o nx = scan first k (s :: S.drop (k + 1)) d o nx by rw [hdrop])
      have c0 := (HREL.out.below.cell (World.block_lt_of_cell? w _ hc)).trans hc
      have s1 : (1 : Int) ≤ (s.size : Int) := by omega
      have s5 : (5 : Int) ≤ (s.size : Int) := by omega
      have s6 : (6 : Int) < (s.size : Int) := by omega
      have s50 : (5 : Int) < (s.size : Int) := by omega
      have s00 : (0 : Int) < (s.size : Int) := by omega
      have t0 : 0 < s.size := by omega
      have t5 : 5 < s.size := by omega
      have t6 : 6 < s.size := by omega
      have x0 := byteAt_eq s 0 t0
      have x5 := byteAt_eq s 5 t5
      have x6 := byteAt_eq s 6 t6
      have m0 := byteAt_lt s 0
      have m5 := byteAt_lt s 5
      have m6 := byteAt_lt s 6
      have hlook : lookOf s (first + k) = if (s.extract 1 5).toList == (fourB (first + k)).toList && (byteAt s 0 == 111 || byteAt s 0 == 99) && decide (byteAt s 5 + 256 * byteAt s 6 ≤ 133) then
        (byteAt s 0, s.extract 7 (7 + (byteAt s 5 + 256 * byteAt s 6)), true) else (0, ⟨#[]⟩, false) := rfl
      have HLK := Lib.hid (fun (_ : Unit) => hlook)
      have HS140 := Lib.hid hs140
      clear hs hc hdrop hlook hs140
      generalize byteAt s 0 = b0 at *
      generalize byteAt s 5 = b5 at *
      generalize byteAt s 6 = b6 at *
      have b00 : (0 : Int) ≤ (b0 : Int) := by omega
      have b01 : (b0 : Int) ≤ 255 := by omega
      have b50 : (0 : Int) ≤ (b5 : Int) := by omega
      have b51 : (b5 : Int) ≤ 255 := by omega
      have b60 : (0 : Int) ≤ (b6 : Int) := by omega
      have b61 : (b6 : Int) ≤ 255 := by omega
      have e5 : IntKind.i64.wrap (b5 : Int) = (b5 : Int) := IntWalk.i64_in _ (by omega)
      have e6 : IntKind.i64.wrap (b6 : Int) = (b6 : Int) := IntWalk.i64_in _ (by omega)
      have e7 : IntKind.i64.wrap (256 * (b6 : Int)) = 256 * (b6 : Int) := IntWalk.i64_in _ (by omega)
      have e8 : IntKind.i64.wrap ((b5 : Int) + 256 * (b6 : Int)) = (b5 : Int) + 256 * (b6 : Int) := IntWalk.i64_in _ (by omega)
      go_wp2_with fail
      refine wp_region_plan (fun w2 => w2 = wr.drew) 80 [([0, 3, 1, 4, 2, 5, 6, 7, 8], [], false)] (by kernel_rfl) (by kernel_rfl) ?_
      apply wpStages_last
      case hT => rfl
      case hn => exact Nat.le_refl _
      case hq =>
        rintro w2 rfl
        simp only [picked, List.filterMap_cons, List.filterMap_nil, List.getElem?_cons_zero, List.getElem?_cons_succ]
        repeat still_step
        exact wpStill_nil rfl
      simp only [picked, List.filterMap_nil]
      refine wpList_nil (OnlyNormal.mk ?_)
      rw [show (b5 : Int) + 256 * (b6 : Int) = ((b5 + 256 * b6 : Nat) : Int) by omega]
      generalize hnb : b5 + 256 * b6 = nb at *
      have nb0 : (0 : Int) ≤ (nb : Int) := by omega
      have NB := Lib.hid hnb
      clear e5 e6 e7 e8 c0 b50 b51 b60 b61 m0 m5 m6 x5 x6 hnb
      have hw1 : IntKind.i64.wrap ((first : Int) + (k : Int)) = ((first + k : Nat) : Int) := by rw [IntWalk.i64_in _ (by have := (HF1.out ()); omega)]; omega
      go_wp2_with fail
      refine wp_region_plan (fun w2 => Below wr.heap.size wr w2) 80 [([0, 2, 3, 1, 4], [5], true), ([6, 7, 8, 9, 10], [], false)] (by kernel_rfl) (by kernel_rfl) ?_
      apply wpStages_keep
      case hT => exact ((Below.refl _ _).drew).drew
      case hn => exact Nat.le_refl _
      case hq =>
        intro w2 hT
        simp only [picked, List.filterMap_cons, List.filterMap_nil, List.getElem?_cons_zero, List.getElem?_cons_succ]
        repeat still_step
        exact wpStill_nil rfl
      simp only [picked, List.filterMap_cons, List.filterMap_nil, List.getElem?_cons_zero, List.getElem?_cons_succ]
      clear hw1
      go_wp2_with fail
      refine (rfour_any (first + k) _ (by have := (HF1.out ()); omega)).mono ?_
      rintro e w3 ⟨rfl, hB3⟩
      have hT : Below wr.heap.size wr w3 := ((Below.refl _ wr).drew.drew).trans hB3
      clear hB3
      have REL := Lib.hid (HREL.out.later hT)
      go_wp2_with fail
      refine OnlyNormal.mk ⟨hT, ?_⟩
      cases hE : ((s.extract 1 5).toList == (fourB (first + k)).toList)
      · apply wpStages_last
        case hT => exact hT
        case hn => exact Nat.le_refl _
        case hq =>
          intro w2 hT
          simp only [picked, List.filterMap_cons, List.filterMap_nil, List.getElem?_cons_zero, List.getElem?_cons_succ]
          with_reducible refine wpStill_want ?hw (fun K hK => ?_)
          case hw => kernel_rfl
          (go_simp; refine hK _ ?_; clear hK K)
          with_reducible refine wpStill_want ?hw (fun K hK => ?_)
          case hw => kernel_rfl
          (go_simp; refine hK _ ?_; clear hK K)
          with_reducible refine wpStill_skip ?hw (fun K hK => ?_)
          case hw => kernel_rfl
          (go_simp; refine hK _ ?_; clear hK K)
          with_reducible refine wpStill_skip ?hw (fun K hK => ?_)
          case hw => kernel_rfl
          (go_simp; refine hK _ ?_; clear hK K)
          with_reducible refine wpStill_want ?hw (fun K hK => ?_)
          case hw => kernel_rfl
          (go_simp; refine hK _ ?_; clear hK K)
          exact wpStill_nil rfl
        simp only [picked, List.filterMap_nil]
        refine wpList_nil (OnlyNormal.mk ?_)
        have hend : scan first 0 S [] [] 0 = (o, nx) := by rw [REL.out.scn, (HSC.out ()), scan, (HLK.out ()), hE]; rfl
        have HEND := Lib.hid hend
        clear hend
        go_wp2_with fail
        go_ret2
        exact RetV.of ⟨_, by rw [HEND.out]; rfl, by rw [HEND.out]; exact REL.out.deeds, REL.out.below⟩
      · apply wpStages_last
        case hT => exact hT
        case hn => exact Nat.le_refl _
        case hq =>
          intro w2 hT
          simp only [picked, List.filterMap_cons, List.filterMap_nil, List.getElem?_cons_zero, List.getElem?_cons_succ]
          with_reducible refine wpStill_want ?hw (fun K hK => ?_)
          case hw => kernel_rfl
          (go_simp; refine hK _ ?_; clear hK K)
          with_reducible refine wpStill_want ?hw (fun K hK => ?_)
          case hw => kernel_rfl
          (go_simp; refine hK _ ?_; clear hK K)
          with_reducible refine wpStill_want ?hw (fun K hK => ?_)
          case hw => kernel_rfl
          (go_simp; refine hK _ ?_; clear hK K)
          with_reducible refine wpStill_want ?hw (fun K hK => ?_)
          case hw => kernel_rfl
          (go_simp; refine hK _ ?_; clear hK K)
          with_reducible refine wpStill_want ?hw (fun K hK => ?_)
          case hw => kernel_rfl
          (go_simp; refine hK _ ?_; clear hK K)
          exact wpStill_nil rfl
        simp only [picked, List.filterMap_nil]
        refine wpList_nil (OnlyNormal.mk ?_)
        have HE := Lib.hid (fun (_ : Unit) => hE)
        clear hE hT
        by_cases hbig : 133 < nb
        · have hbig' : (133 : Int) < (nb : Int) := by omega
          rw [decide_eq_true hbig']
          have HBIG := Lib.hid hbig
          clear hbig
          have hend : scan first 0 S [] [] 0 = (o, nx) := by
            rw [REL.out.scn, (HSC.out ()), scan, (HLK.out ()), decide_eq_false (by have := HBIG.out; omega), Bool.and_false]
            rfl
          have HEND := Lib.hid hend
          clear hend
          go_wp2_with fail
          go_ret2
          exact RetV.of ⟨_, by rw [HEND.out]; rfl, by rw [HEND.out]; exact REL.out.deeds, REL.out.below⟩
        have hbig' : (nb : Int) ≤ 133 := by omega
        rw [decide_eq_false (show ¬ (133 : Int) < (nb : Int) by omega)]
        clear hbig
        have hle7 : (0 : Int) ≤ 7 + (nb : Int) := by omega
        have hle8 : (7 : Int) ≤ 7 + (nb : Int) := by omega
        have hle9 : 7 + (nb : Int) ≤ (s.size : Int) := by have := HS140.out; omega
        have hto : (7 + (nb : Int)).toNat = 7 + nb := by omega
        have htx : (s.extract 7 (7 + nb)).size ≤ 140 := by rw [ByteArray.size_extract]; have := HS140.out; omega
        have HLK2 := Lib.hid (fun (_ : Unit) => show (lookOf s (first + k)) = if (b0 == 111 || b0 == 99) then (b0, s.extract 7 (7 + nb), true) else (0, ⟨#[]⟩, false) by
          rw [(HLK.out ()), (HE.out ()), decide_eq_true (by omega), Bool.and_true, Bool.true_and])
        have HTX := Lib.hid htx
        clear htx HLK
        by_cases h99 : b0 = 99
        · subst h99
          have HDL := HREL.out.dlen
          obtain ⟨ao7, cap7, rfl⟩ := owns_form REL.out.rows.choose_spec.choose_spec.2.2.1
          have d1 : (d.length : Int) ≤ 130 := by omega
          go_wp2_with fail
          refine (rfour_any d.length w3 (by omega)).mono ?_
          rintro e w4 ⟨rfl, hB4⟩
          have REL4 := Lib.hid (REL.out.later hB4)
          clear hB4
          cases hC : ((s.extract 7 (7 + nb)).toList == (fourB d.length).toList)
          · have hend : scan first 0 S [] [] 0 = (o, nx) := by
              rw [REL4.out.scn, (HSC.out ()), scan_cons (show lookOf s (first + k) = (99, s.extract 7 (7 + nb), true) by rw [(HLK2.out ())]; rfl)]
              rw [if_pos rfl, if_pos (by decide), if_neg (by rw [hC]; exact Bool.false_ne_true)]
            have HEND := Lib.hid hend
            clear hend
            go_wp2_with fail
            go_ret2
            exact RetV.of ⟨_, by rw [HEND.out]; rfl, by rw [HEND.out]; exact REL4.out.deeds, REL4.out.below⟩
          · have hs2 : scan first k (S.drop k) d o nx = scan first (k + 1) (S.drop (k + 1)) [] (o ++ [d]) (k + 1) := by
              rw [(HSC.out ()), scan_cons (show lookOf s (first + k) = (99, s.extract 7 (7 + nb), true) by rw [(HLK2.out ())]; rfl)]
              rw [if_pos rfl, if_pos (by decide), if_pos hC]
            obtain ⟨B, vs, q1, q2, q3, q4, q5, q6⟩ := REL4.out.rows
            have hol := REL4.out.olen
            have HS := Lib.hid hs2
            have Q1 := Lib.hid q1
            have Q2 := Lib.hid q2
            have Q3 := Lib.hid q3
            have Q4 := Lib.hid q4
            have Q5 := Lib.hid q5
            have Q6 := Lib.hid q6
            clear hs2 q1 q2 q3 q4 q5 q6
            go_wp2_with (at_builtin; refine wpList_append_any rfl (.tmp 58) (.tmp 60) 78 rfl w.heap.size 36 i36 _ 1 24 Try.underlying78 gi gz0 gz1 gz2 rfl (by decide) _ o.length vs rfl (World.ownsRow.alloc (w := w4) Q4.out _) (some ⟨w4.heap.size, 0, none⟩) 1 1 [.slice ao7 d.length cap7] rfl rfl ?_ (by simp [Value.oneCell']) (o.length + 1) rfl (by unfold maxLen; omega) (by omega) ?_ ?_)
            · exact fun _ => ⟨_, rfl, fun j u hu => by
                rw [addr_add]
                exact (cell_of (heap_alloc_new w4 _) j).trans (by simpa using hu)⟩
            · rw [size_alloc]
              have := REL4.out.below.size
              omega
            intro out' w5 ho hg _
            have hf : Frame u6.ownBlock.toList w4 w5 := ((Frame.refl _ w4).alloc (.cells #[.slice ao7 d.length cap7] 36)).grown hg (fun g hg => .inl (by rw [hg]; simp))
            have HNEW := Lib.hid (REL4.out.close Q1.out Q2.out Q3.out Q4.out Q5.out Q6.out HS.out hf (by rw [List.length_append]; exact ho))
            clear ho hg hf hC
            go_wp2_with fail
            exact ⟨⟨k + 1, [], o ++ [d], k + 1, by omega, by go_num, by go_num, HNEW⟩, by simp [intOf]; omega⟩
        · have h99' : ¬ (b0 : Int) = 99 := by omega
          by_cases h111 : b0 = 111
          · subst h111
            have hsc2 : scan first k (S.drop k) d o nx =
                if (parseOf (s.extract 7 (7 + nb))).2 = 0 then scan first (k + 1) (S.drop (k + 1)) (d ++ [(parseOf (s.extract 7 (7 + nb))).1]) o nx else (o, nx) := by
              rw [(HSC.out ()), scan_cons (show lookOf s (first + k) = (111, s.extract 7 (7 + nb), true) by rw [(HLK2.out ())]; rfl)]
              rw [if_pos rfl, if_neg (by decide)]
            have HSC2 := Lib.hid hsc2
            clear hsc2 h99
            go_wp2_with fail
            refine (changeOf_any (s.extract 7 (7 + nb)) w3 (by have := HTX.out; omega)).mono ?_
            rintro e w4 ⟨rfl, hB4⟩
            have REL4 := Lib.hid (REL.out.later hB4)
            clear hB4
            generalize parseOf (s.extract 7 (7 + nb)) = pp at *
            obtain ⟨⟨pk, pv, pg⟩, pm⟩ := pp
            simp only at *
            unfold Chg.v errN
            have REL5 := Lib.hid (REL4.out.later ((Below.refl _ w4).alloc (Nat.le_refl _) (.cells #[.string pk, .string pv, .bool pg] 64)))
            have HP := Lib.hid (heap_alloc_new w4 (.cells #[.string pk, .string pv, .bool pg] 64))
            by_cases hpm : pm = 0
            · subst hpm
              have hs2 : scan first k (S.drop k) d o nx = scan first (k + 1) (S.drop (k + 1)) (d ++ [⟨pk, pv, pg⟩]) o nx := by rw [HSC2.out]; rfl
              have HS := Lib.hid hs2
              clear hs2
              obtain ⟨B, vs, q1', q2', q3, q4, q5, q6⟩ := REL5.out.rows
              obtain ⟨ao7, cap7, rfl⟩ := owns_form q3
              have hdl := REL5.out.dlen
              have p0 := cell_of HP.out 0
              have p1 := cell_of HP.out 1
              have p2 := cell_of HP.out 2
              simp only [List.getElem?_toArray, List.getElem?_cons_zero, List.getElem?_cons_succ] at p0 p1 p2
              have HQ1 := Lib.hid q1'
              have HQ2 := Lib.hid q2'
              have Q3 := Lib.hid q3
              have Q4 := Lib.hid q4
              have Q5 := Lib.hid q5
              have Q6 := Lib.hid q6
              clear q1' q2' q3 q4 q5 q6
              go_wp2_with (at_builtin; refine wpList_append_any rfl (.tmp 74) (.tmp 76) 36 rfl B 64 i64 _ 3 40 Try.underlying36 hi hz0 hz1 hz2 rfl (by decide) _ d.length (flC d) rfl (World.ownsRow.alloc (w := (w4.alloc (.cells #[.string pk, .string pv, .bool pg] 64))) Q3.out _) (some ⟨w4.heap.size + 1, 0, none⟩) 1 1 [.string pk, .string pv, .bool pg] rfl rfl ?_ (by simp [Value.oneCell']) (d.length + 1) rfl (by unfold maxLen; omega) (by omega) ?_ ?_)
              · have := HQ2.out
                rw [size_alloc] at this
                omega
              intro deed' w5 ho hg _
              have hf : Frame (Value.slice ao7 d.length cap7).ownBlock.toList (w4.alloc (.cells #[.string pk, .string pv, .bool pg] 64)) w5 := ((Frame.refl _ (w4.alloc (.cells #[.string pk, .string pv, .bool pg] 64))).alloc (.cells #[.string pk, .string pv, .bool pg] 64)).grown hg (fun g hg => .inl (by rw [hg]; simp))
              have HNEW := Lib.hid (REL5.out.more HQ1.out HQ2.out Q3.out Q4.out Q5.out Q6.out ⟨pk, pv, pg⟩ HS.out hf (by rw [List.length_append, flC_append]; exact ho))
              clear ho hg hf
              go_wp2_with fail
              exact ⟨⟨k + 1, d ++ [⟨pk, pv, pg⟩], o, nx, by omega, by go_num, rfl, HNEW⟩, by simp [intOf]; omega⟩
            · have hpm' : (0 : Int) < (pm : Int) := by omega
              have hend : scan first 0 S [] [] 0 = (o, nx) := by rw [REL5.out.scn, HSC2.out, if_neg hpm]
              have HEND := Lib.hid hend
              clear hend hpm
              go_wp2_with fail
              go_ret2
              exact RetV.of ⟨_, by rw [HEND.out]; rfl, by rw [HEND.out]; exact REL5.out.deeds, REL5.out.below⟩
          · have h111' : ¬ (b0 : Int) = 111 := by omega
            have hend : scan first 0 S [] [] 0 = (o, nx) := by
              rw [REL.out.scn, (HSC.out ()), scan, (HLK2.out ())]
              rw [show (b0 == 111) = false by simpa using h111, show (b0 == 99) = false by simpa using h99]
              rfl
            have HEND := Lib.hid hend
            clear hend h99 h111
            go_wp2_with fail
            go_ret2
            exact RetV.of ⟨_, by rw [HEND.out]; rfl, by rw [HEND.out]; exact REL.out.deeds, REL.out.below⟩

    · obtain rfl : k = n := by omega
      have hend : scan first 0 S [] [] 0 = (o, nx) := by
        rw [HREL.out.scn, List.drop_of_length_le (by rw [← HN.out]; exact Nat.le_refl _)]
        rfl
      have HEND := Lib.hid hend
      clear hend
      go_wp2_with fail
      go_ret2
      exact RetV.of ⟨_, by rw [HEND.out]; rfl, by rw [HEND.out]; exact HREL.out.deeds, HREL.out.below⟩

end Go.Proofs.Ytkapmpngglibjaa
