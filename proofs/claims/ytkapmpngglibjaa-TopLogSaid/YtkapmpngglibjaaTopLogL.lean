/- The law TopLog, walked. Conditions: the contract's own premises. -/
import Derived.Test.YtkapmpngglibjaaLogX
import Derived.Test.YtkapmpngglibjaaFork
import Derived.Test.YtkapmpngglibjaaGd
namespace Go.Proofs.Ytkapmpngglibjaa
open Go Go.RowKit

theorem DM.arm_same (D : DM) (n : Int) : (D.arm n).now = D.now ∧ (D.arm n).kept = D.kept ∧ (D.arm n).wait = D.wait := ⟨rfl, rfl, rfl⟩
theorem LogGood.arm {L : LM} {D : DM} {ds : List (List Chg)} (h : LogGood L D ds) (n : Int) : LogGood L (D.arm n) ds := ⟨h.of_, h.noC, h.sz, h.kept, h.wait⟩
theorem LogOne.moved0 {base : Nat} {w0 w w1 : World} {b db : Nat} {X : List Nat} {D D' : DM} {L : LM} (h : LogOne base w0 w b db X D L) (h1 : DiskAt w1 107 111 db X D') (f1 : Frame X w w1) : LogOne base w0 w1 b db X D' L :=
  ⟨h.o.moved h1 f1 (Fresh.refl _ _), f1.heap h.l h.nb, h.nb, h.lo⟩
theorem DeedsP.moved0 {w w' : World} {b : Nat} {X : List Nat} {v : Value} {ds : List (List Chg)} (h : DeedsP (fun k => k ∉ b :: X) w v ds) (hf : Frame X w w') : DeedsP (fun k => k ∉ b :: X) w' v ds :=
  h.frame hf fun k hk hX => hk (by simp [hX])

/-- What is known between two deeds. -/
structure TL (w0 w : World) (n : Nat) (k : Nat) (b db : Nat) (X : List Nat) (D : DM) (L : LM) (ds : List (List Chg)) (want last : Value) : Prop where
  o : LogOne w0.heap.size w0 w b db X D L
  good : LogGood L D ds
  fr : L.from_ = 1
  many : L.many = 59
  first : L.first = 5
  want : DeedsP (fun k => k ∉ b :: X) w want ds
  last : DeedsP (fun k => k ∉ b :: X) w last ds
  len : ds.length ≤ k
  el : ∀ d ∈ ds, d.length ≤ 14

/-- What is known when all is done: behind the fall there is what is wanted, or the last. -/
def TEnd (D : DM) (keep : Nat) (dw dl : List (List Chg)) : Prop := ∃ L g, LogGood L (D.restart keep) g ∧ (g = dw ∨ g = dl) ∧ L.from_ = 1 ∧ L.many = 59 ∧ L.first = 5

theorem DeedsP.elem {S : Nat → Prop} {w : World} {ao : Option Addr} {n cap : Nat} {ds : List (List Chg)} (h : DeedsP S w (.slice ao n cap) ds) (i : Nat) (d : List Chg) (hd : ds[i]? = some d) :
    ∃ b off u, ao = some ⟨b, off, none⟩ ∧ S b ∧ w.cell? ⟨b, off + i, none⟩ = some u ∧ ChgP S w u d := by
  obtain ⟨ao', cap', he, hr⟩ := h.form
  cases he
  exact hr i d hd

theorem addRun_wait (L : LM) (l : List Chg) : ∀ (js : List Nat) (D : DM), (addRun L l D js).2.wait.length ≤ D.wait.length + js.length * (l.length + 1)
  | [], D => by simp [addRun]
  | j :: js, D => by
    have h1 := addStep_wait L l D j
    have h2 := addRun_wait L l js (addStep L l D j).2
    rw [addRun]
    simp only [List.length_cons, Nat.add_mul, Nat.one_mul]
    split <;> omega
theorem addL_wait (L : LM) (D : DM) (l : List Chg) : (addL L D l).2.1.wait.length ≤ D.wait.length + 4 * (l.length + 1) := by
  have h := addRun_wait L l [0, 1, 2, 3] D
  unfold addL
  split
  · simp
  · split
    · simp
    · split
      · simp
      · exact h

theorem snoc_deeds {w3 w6 : World} {b : Nat} {Y : List Nat} {v : Value} {vs : List Value} {u : Value} {ds : List (List Chg)} {d : List Chg} {n : Nat} (hlt : ∀ k ∈ b :: Y, k < w3.heap.size) (ho : w6.ownsRow w3.heap.size 36 1 v n (vs ++ [u])) (hn : n = ds.length + 1)
    (hl : vs.length = ds.length) (hel : ∀ (i : Nat) (u : Value) (d : List Chg), vs[i]? = some u → ds[i]? = some d → ChgP (fun k => k ∉ b :: Y) w3 u d) (hu : ChgP (fun k => k ∉ b :: Y) w3 u d) (hB : Below w3.heap.size w3 w6) :
    DeedsP (fun k => k ∉ b :: Y) w6 v (ds ++ [d]) :=
  DeedsP.of_own ho (by rw [hn, List.length_append]; rfl) (by simp [hl]) (fun k hk _ hm => by have := hlt k hm; omega)
    (snoc_elems hl (fun i u d h1 h2 => (hel i u d h1 h2).later hB) (hu.later hB))

theorem zz_ok : firstFault [⟨⟨#[122]⟩, ⟨#[122]⟩, false⟩] = 0 := by
  unfold firstFault
  have : faultOf ⟨⟨#[122]⟩, ⟨#[122]⟩, false⟩ = 0 := by
    unfold faultOf
    rw [if_neg (by simp [ByteArray.toList_eq]), if_neg (by decide)]
  rw [if_pos this]
  rfl

/-- The end of the walk: a deed more behind the fall. -/
theorem app_ok {base : Nat} {w0 w : World} {b db : Nat} {X : List Nat} {D : DM} {L : LM} {ds : List (List Chg)} (h : LogOne base w0 w b db X D L) (hg : LogGood L D ds) (hu : D.Ready) (d : List Chg) (hfr : L.from_ = 1) (hmany : L.many = 59) (hfirst : L.first = 5)
    (h12 : d.length ≤ 12) (hroom : L.next + d.length + 1 ≤ L.many) (hff : firstFault d = 0) (v : Value) (hv : ChgP (fun k => k ∉ b :: X) w v d) :
    Calls Try.prog 47 #[.pointer (some ⟨b, 0, none⟩), v] w (Ret .nilIface fun w' => ∃ Y D', D'.Ready ∧ LogGood (L.more d) D' (ds ++ [d]) ∧ LogOne base w0 w' b db Y D' (L.more d) ∧ Fresh w X Y ∧ Frame (b :: X) w w') := by
  have hn : L.next ≤ L.many := hg.of_.next_le
  obtain ⟨z1, z2⟩ := addL_up d hg hu h12 hroom hff
  refine (add_any b db X D L v d w h.o.d h.l h.nb (hv.mono fun k _ hk hX => hk (by simp [hX])) (by omega) hn (by omega) (by rw [hg.wait]; exact (by decide : 0 < 8000)) (by omega)).mono ?_
  rintro e w' ⟨rfl, ha⟩
  rcases addL_cases d hg with ⟨c1, c2, c3, c4⟩ | ⟨c1, c2, c3, c4⟩ | ⟨c1, c2, c3⟩
  · rw [c2] at ha
    obtain ⟨Y, h1, h2, h3⟩ := h.added ha
    exact Ret.of (by rw [c1]; rfl) ⟨Y, _, z2, c3, h1, h2, h3⟩
  · exact absurd z1 c1
  · rw [z1] at c1
    cases c1

set_option maxHeartbeats 8000000 in
set_option maxRecDepth 100000 in
theorem topLog_any (v : Value) (l : List (List Chg)) (fuse : Int) (keep : Nat) (w : World) (h : DeedsP (fun _ => True) w v l) (hkeep : keep < 2 ^ 64) :
    Calls Try.prog 7 #[v, .int .i64 fuse, .int .u64 (keep : Int)] w (Ret (.bool true) fun w' => Below w.heap.size w w') := by
  obtain ⟨i36, gi, gz0, gz1, gz2⟩ := info_parts info36
  have HK := Lib.hid hkeep
  have H1 := Lib.hid (show DeedsP (fun k => k < w.heap.size) w v l from h.mono fun k hk _ => hk)
  have hlm : l.length ≤ maxLen := by
    obtain ⟨ao, cap, vs, -, hm, -⟩ := h
    exact hm
  obtain ⟨ao, cap, rfl, -⟩ := h.form
  clear h hkeep
  unfold maxLen at hlm
  go_enter Try.func7, Try.ntmps7
  go_wp2_with fail
  refine (new_good 60 _ (by omega) (by omega)).mono ?_
  rintro e w1 ⟨vd, rfl, db, X, rfl, hD, hB, hX⟩
  have hO : One w.heap.size w w1 db X (DM.new 60) := ⟨hD, hX, hB, Nat.le_refl _⟩
  have HG := Lib.hid (new_log 60 ⟨1, 59, 5, 0⟩ (by decide) rfl (by decide) (by decide))
  have hdn : (DM.new 60).down = false := rfl
  have hl60 : (DM.new 60).now.length = 60 := by simp [DM.new]
  generalize DM.new 60 = D0 at *
  clear hD hB hX
  go_wp2_with fail
  refine (open_any db X D0 1 59 5 w1 hO.d (by omega) (by omega) (by omega) hdn HG.out.sz (by omega)).mono ?_
  rw [show scan 5 0 (secs D0 1 59) [] [] 0 = ([], 0) from HG.out.scan]
  rintro e w2 ⟨v2, rfl, ho⟩
  obtain ⟨b, vd, rfl, hb1, hLO, hds, hbl⟩ := LogOne.opened (L := ⟨1, 59, 5, 0⟩) hO ho
  obtain ⟨ao2, cap2, rfl, -⟩ := hds.form
  have HLO := Lib.hid hLO
  clear ho hds hO hbl hLO
  go_wp2_with fail
  have hrm := room_any b db ⟨1, 59, 5, 0⟩ w2 HLO.out.l (by decide) (by decide)
  rw [show ((59 : Nat) : Int) - ((0 : Nat) : Int) = 59 from rfl] at hrm
  refine hrm.mono ?_
  clear hrm
  rintro e w3 ⟨rfl, nq, rfl⟩
  have HLO3 := Lib.hid (HLO.out.later (below_drewN (Below.refl _ w2) nq))
  generalize w2.drewN nq = w3 at *
  clear HLO
  go_wp2_with fail
  refine (lightDeeds_any _ _ l 8 w3 (H1.out.later HLO3.out.o.below)).mono ?_
  rintro e w4 ⟨rfl, rfl⟩
  by_cases hl : lightDeeds l 8 = true
  case neg =>
    rw [Bool.not_eq_true] at hl
    rw [hl]
    go_wp2_with fail
    go_ret
    exact Ret.of rfl HLO3.out.o.below
  rw [hl]
  have hl' : l.length ≤ 8 ∧ ∀ d ∈ l, d.length ≤ 14 := by
    rw [lightDeeds, Bool.and_eq_true, decide_eq_true_eq, List.all_eq_true] at hl
    refine ⟨by omega, fun d hd => ?_⟩
    have := hl.2 d hd
    rw [lightChanges, Bool.and_eq_true, decide_eq_true_eq] at this
    omega
  obtain ⟨hl8, hel⟩ := hl'
  have HEL := Lib.hid hel
  clear hl hel
  go_wp2_with fail
  refine (arm_any db X D0 _ w3 HLO3.out.o.d (by omega)).mono ?_
  rintro e w5 ⟨rfl, hD5, hF5⟩
  have HTL := Lib.hid (show TL w w5 l.length 0 b db X (D0.arm (min (max fuse (-1)) 200)) ⟨1, 59, 5, 0⟩ [] (.slice none 0 0) (.slice none 0 0) from
    ⟨HLO3.out.moved0 hD5 hF5, HG.out.arm _, rfl, rfl, rfl, DeedsP.nil _ _, DeedsP.nil _ _, Nat.le_refl _, by simp⟩)
  generalize D0.arm (min (max fuse (-1)) 200) = D1 at *
  clear hD5 hF5 HLO3 HG hdn hl60
  obtain ⟨n, hn⟩ : ∃ n, n = l.length := ⟨_, rfl⟩
  rw [← hn] at HTL hl8 hlm ⊢
  have HN := Lib.hid hn
  clear hn
  have n0 : (0 : Int) ≤ (n : Int) := by omega
  have n8 : (n : Int) ≤ 8 := by omega
  go_wp2_with fail
  go_loopw [11, 12, 13] (fun want last i wr => ∃ (k X' : _) (D' : DM) (L' : LM) (ds : _), k ≤ n ∧ i = .int .i64 (k : Int) ∧ Hid (TL w wr n k b db X' D' L' ds want last)) (fun _ _ i _ => n - (intOf i).toNat)
  case atStart => exact ⟨0, X, D1, ⟨1, 59, 5, 0⟩, [], Nat.zero_le _, rfl, HTL⟩
  case round =>
    clear HTL
    obtain ⟨k, Xr, Dr, Lr, ds, hk, rfl, HTL⟩ := hrel
    have k0 : (0 : Int) ≤ (k : Int) := by omega
    by_cases hlt : k < n
    · have k1 : (k : Int) < (n : Int) := by omega
      obtain ⟨d, hd⟩ : ∃ d, l[k]? = some d := ⟨_, List.getElem?_eq_getElem (by rw [← HN.out]; exact hlt)⟩
      obtain ⟨b0, off, u, hao, hb0, hc0, hu⟩ := (show DeedsP (fun k => k < w.heap.size) w (.slice ao n cap) l by rw [HN.out]; exact H1.out).elem k d hd
      subst hao
      have hdl : d.length ≤ 14 := HEL.out d (List.mem_of_getElem? hd)
      have HU := Lib.hid (show ChgP (fun k' => k' ∉ b :: Xr) wr u d from (hu.later HTL.out.o.o.below).mono fun k' _ (hk' : k' < w.heap.size) hm => by have := HTL.out.o.mem k' hm; omega)
      have HD := Lib.hid hd
      have c0 := (HTL.out.o.o.below.cell (World.block_lt_of_cell? w _ hc0)).trans hc0
      have HC0 := Lib.hid hc0
      obtain ⟨aou, capu, rfl⟩ : ∃ ao cap, u = .slice ao d.length cap := by
        obtain ⟨ao, cap, rfl, -⟩ := hu
        exact ⟨ao, cap, rfl⟩
      clear hu hc0 hb0 hd
      go_wp2_with fail
      have hnx := HTL.out.good.of_.next_le
      have hfr := HTL.out.fr
      have hmny := HTL.out.many
      have hfst := HTL.out.first
      refine (add_any b db Xr Dr Lr _ d wr HTL.out.o.o.d HTL.out.o.l HTL.out.o.nb (HU.out.mono fun k' _ hk' hX => hk' (by simp [hX])) (by omega) hnx (by omega) (by rw [HTL.out.good.wait]; exact (by decide : 0 < 8000)) (by omega)).mono ?_
      rintro e w3 ⟨rfl, hA⟩
      obtain ⟨Y, hLO3, hfrs, hF3⟩ := HTL.out.o.added hA
      have HCS := Lib.hid (addL_cases d HTL.out.good)
      have HLO3 := Lib.hid hLO3
      have HW3 := Lib.hid (HTL.out.want.moved hF3 hfrs)
      have HU3 := Lib.hid (HU.out.moved hF3 hfrs)
      have c3 := (HLO3.out.o.below.cell (World.block_lt_of_cell? w _ HC0.out)).trans HC0.out
      have HC3 := Lib.hid c3
      clear hA hLO3 hfrs
      have HF3 := Lib.hid hF3
      have HWAIT := Lib.hid (show (addL Lr Dr d).2.1.wait.length < 10000 by
        have h1 := addL_wait Lr Dr d
        rw [HTL.out.good.wait] at h1
        simp only [List.length_nil] at h1
        omega)
      generalize addL Lr Dr d = r at *
      obtain ⟨m, D', L'⟩ := r
      simp only at *
      clear hF3
      obtain ⟨aow, capw, vs, rfl, hwm, hvl, hsrc, hone, hel⟩ := HW3.out.row
      have HSRC := Lib.hid hsrc
      have HEL3 := Lib.hid hel
      have HVL := Lib.hid hvl
      have HONE := Lib.hid hone
      have hdsl := HTL.out.len
      clear hsrc hel hvl hone hwm c0
      go_wp2_with fail
      refine wp_region_fork (fun w2 => Below w3.heap.size w3 w2) 138 [0, 2, 3, 4, 5] [(1, [([], [6], true), ([], [7, 8], false)]), (6, [([], [1], true), ([], [7, 8], false)])] (by kernel_rfl) (by kernel_rfl) ?_
      apply wpFork_mk
      case hT => exact (Below.refl _ _).drew
      case hn => exact Nat.le_refl _
      case hq =>
        intro w2 hT
        have c4 := (hT.cell (World.block_lt_of_cell? w3 _ HC3.out)).trans HC3.out
        simp only [picked, List.filterMap_cons, List.filterMap_nil, List.getElem?_cons_zero, List.getElem?_cons_succ]
        repeat still_step
        exact wpStill_nil rfl
      simp only [wpForks, picked, List.filterMap_cons, List.filterMap_nil, List.getElem?_cons_zero, List.getElem?_cons_succ]
      refine ⟨?_, ?_, trivial⟩

      · refine wpList_append_any rfl (.const (.slice none 0 0)) (.tmp 72) 78 rfl w3.heap.size 36 i36 _ 1 24 Try.underlying78 gi gz0 gz1 gz2 rfl (by decide) (.slice none 0 0) 0 [] rfl (World.ownsRow_nil _ _ _ _) aow ds.length capw vs rfl ?_ ?_ HONE.out ds.length (Nat.zero_add _) (by unfold maxLen; omega) (by omega) ?_ ?_
        · rw [Nat.mul_one]
          exact HVL.out
        · exact HSRC.out
        · exact Nat.le_refl _
        intro v1 w4 ho hg hat
        have hB4 : Below w3.heap.size w3 w4 := (Below.refl _ w3).drew.grown hg (Nat.le_refl _) (fun k hk => by cases hk)
        have HO4 := Lib.hid (show w4.ownsRow w3.heap.size 36 1 v1 ds.length vs from ho)
        have HB4 := Lib.hid hB4
        refine OnlyNormal.mk ⟨hB4, ?_⟩
        clear ho hg hat hB4
        apply wpStages_seqkeep
        simp only [picked, List.filterMap_cons, List.filterMap_nil, List.getElem?_cons_zero, List.getElem?_cons_succ]
        go_wp2_with fail
        have hB5 := HB4.out.alloc HB4.out.size (.cells #[.slice aou d.length capu] 36)
        refine OnlyNormal.mk ⟨hB5, ?_⟩
        apply wpStages_seq
        simp only [picked, List.filterMap_cons, List.filterMap_nil, List.getElem?_cons_zero, List.getElem?_cons_succ]
        refine wpList_append_any rfl (.tmp 73) (.tmp 78) 78 rfl w3.heap.size 36 i36 _ 1 24 Try.underlying78 gi gz0 gz1 gz2 rfl (by decide) v1 ds.length vs rfl (World.ownsRow.alloc (w := w4) HO4.out _) (some ⟨w4.heap.size, 0, none⟩) 1 1 [.slice aou d.length capu] rfl rfl ?_ (by simp [Value.oneCell']) (ds.length + 1) rfl (by unfold maxLen; omega) (by omega) ?_ ?_
        · exact fun _ => ⟨_, rfl, fun j u hu => by
            rw [addr_add]
            exact (cell_of (heap_alloc_new w4 _) j).trans (by simpa using hu)⟩
        · exact hB5.size
        intro v2 w6 ho hg hat
        have HB6 := Lib.hid (hB5.grown hg hB5.size (fun k hk => (World.ownsRow.lt HO4.out k hk).1))
        obtain ⟨ao6, cap6, rfl⟩ := owns_form ho
        have hlt3 : ∀ k ∈ b :: Y, k < w3.heap.size := fun k hk => by
          rcases List.mem_cons.1 hk with rfl | hk
          · exact HLO3.out.lt
          · exact HLO3.out.o.d.lt k hk
        have HW6 := Lib.hid (snoc_deeds hlt3 ho rfl HVL.out HEL3.out HU3.out HB6.out)
        clear ho hg hat hlt3 HB4 HO4
        have HLO6 := Lib.hid (HLO3.out.later HB6.out)
        have HWW6 := Lib.hid (HW3.out.later HB6.out)
        go_wp2_with fail
        refine OnlyNormal.mk (wpStages_nil ?_)
        rcases HCS.out with ⟨rfl, rfl, hg', c4⟩ | ⟨c1, c2, rfl, rfl⟩ | ⟨rfl, rfl, c3⟩
        · rw [show errV 0 = .nilIface from rfl]
          clear HCS
          have HGG := Lib.hid hg'
          clear hg' c4
          go_wp2_with fail
          refine ⟨⟨k + 1, Y, D', Lr.more d, ds ++ [d], by omega, by go_num, ⟨HLO6.out, HGG.out, hfr, hmny, hfst, HW6.out, HW6.out, ?_, ?_⟩⟩, by simp [intOf]; omega⟩
          · simp; omega
          · intro x hx
            rcases List.mem_append.1 hx with hx | hx
            · exact HTL.out.el x hx
            · obtain rfl : x = d := by simpa using hx
              exact hdl
        · clear HCS
          have hnum := fun w => number_any m w
          rw [show errV m = .iface 101 (.int .i64 (m : Int)) by simp [errV, c1]] at hnum ⊢
          have c2' : ¬ (m : Int) = 10 := by omega
          clear c1 c2
          go_wp2_with fail
          refine (hnum _).mono ?_
          rintro e w7 ⟨rfl, rfl⟩
          go_wp2_with fail
          exact ⟨⟨k + 1, Y, D', L', ds, by omega, by go_num, ⟨HLO6.out, HTL.out.good, hfr, hmny, hfst, HWW6.out, HWW6.out, by omega, HTL.out.el⟩⟩, by simp [intOf]; omega⟩
        · have HTE := Lib.hid (show TEnd D' keep ds (ds ++ [d]) by
            intros
            rcases c3 keep with h | h
            · exact ⟨L', ds, h, .inl rfl, hfr, hmny, hfst⟩
            · exact ⟨L'.more d, _, h, .inr rfl, hfr, hmny, hfst⟩)
          have HEW := Lib.hid (show ds.length ≤ 8 ∧ (ds ++ [d]).length ≤ 9 ∧ (∀ x ∈ ds, x.length ≤ 14) ∧ ∀ x ∈ ds ++ [d], x.length ≤ 14 from ⟨by omega, by simp; omega, HTL.out.el, fun x hx => by
            rcases List.mem_append.1 hx with hx | hx
            · exact HTL.out.el x hx
            · obtain rfl : x = d := by simpa using hx
              exact hdl⟩)
          clear HCS c3
          have hnum := fun w => number_any 10 w
          rw [show errV 10 = .iface 101 (.int .i64 10) from rfl] at hnum ⊢
          go_wp2_with fail
          refine (hnum _).mono ?_
          rintro e w7 ⟨rfl, rfl⟩
          clear hnum
          go_wp2_with fail
          clear HTL
          have hwt : D'.wait.length < 10000 := HWAIT.out
          refine (restart_any db _ D' keep _ HLO6.out.o.d hwt HK.out).mono ?_
          rintro e w7 ⟨rfl, hD7, hF7⟩
          obtain ⟨⟨fr, mn, fs, nx⟩, g, hG, hor, e1, e2, e3⟩ := HTE.out
          simp only at e1 e2 e3
          subst e1 e2 e3
          have hR : (D'.restart keep).Ready := (restart_now D' keep).2.2.2
          have HO7 := Lib.hid (HLO6.out.o.moved hD7 hF7 (Fresh.refl _ _))
          have HW7 := Lib.hid (HWW6.out.moved0 hF7)
          have HL7 := Lib.hid (HW6.out.moved0 hF7)
          clear hD7 hF7 HTE hwt HWAIT
          generalize D'.restart keep = E at *
          have HG := Lib.hid hG
          have HR := Lib.hid hR
          have hfits := hG.of_.fits
          have hnx := hG.of_.next_le
          simp only at hfits hnx
          have hgl : g.length ≤ 9 ∧ ∀ x ∈ g, x.length ≤ 14 := by
            have := HEW.out
            rcases hor with rfl | rfl
            · exact ⟨by omega, this.2.2.1⟩
            · exact ⟨by omega, this.2.2.2⟩
          have HOR := Lib.hid hor
          have HGL := Lib.hid hgl
          obtain ⟨hg9, -⟩ := hgl
          have hscan : scan 5 0 (secs E 1 59) [] [] 0 = (g, nx) := HG.out.scan
          have HSCAN := Lib.hid hscan
          clear hG hR hor hscan
          go_wp2_with fail
          have hop := open_any db _ E 1 59 5 w7 HO7.out.d (by omega) (by omega) (by omega) HR.out.1 HG.out.sz (by omega)
          rw [HSCAN.out] at hop
          refine hop.mono ?_
          clear hop
          rintro e w8 ⟨v8, rfl, ho8⟩
          obtain ⟨b2, vd8, rfl, -, hLO8, hd8, hbl8⟩ := LogOne.opened (L := ⟨1, 59, 5, nx⟩) (ds := g) HO7.out ho8
          obtain ⟨ao8, cap8, rfl, -⟩ := hd8.form
          have HLO8 := Lib.hid hLO8
          have HD8 := Lib.hid hd8
          have HW8 := Lib.hid (HW7.out.later hbl8)
          have HL8 := Lib.hid (HL7.out.later hbl8)
          clear ho8 hLO8 hd8 hbl8 HW7 HL7
          go_wp2_with fail
          refine (same_deeds _ _ _ _ g ds w8 HD8.out HW8.out (by omega) (fun x hx => by have := HGL.out.2 x hx; omega)).mono ?_
          rintro e w9 ⟨rfl, hB9⟩
          have HLO9 := Lib.hid (HLO8.out.later hB9)
          have HD9 := Lib.hid (HD8.out.later hB9)
          have HL9 := Lib.hid (HL8.out.later hB9)
          clear hB9
          cases hx : sameD g ds
          · have hx2 : sameD g (ds ++ [d]) = true := by
              rcases HOR.out with h | h
              · rw [(sameD_eq g ds).2 h] at hx
                cases hx
              · exact (sameD_eq _ _).2 h
            have hsame := same_deeds _ _ _ _ g (ds ++ [d]) w9 HD9.out HL9.out (by omega) (fun x hx => by have := HGL.out.2 x hx; omega)
            rw [hx2] at hsame
            clear hx hx2
            go_wp2_with fail
            refine hsame.mono ?_
            rintro e w10 ⟨rfl, hB10⟩
            have HLOA := Lib.hid (HLO9.out.later hB10)
            have HDA := Lib.hid (HD9.out.later hB10)
            clear hB10 hsame HLO9 HD9 HLO8 HD8 HL9 HL8 HW8
            have HBA := Lib.hid (heap_alloc_new w10 (.cells #[.string ⟨#[122]⟩, .string ⟨#[122]⟩, .bool false] 64))
            have HLOB := Lib.hid (HLOA.out.later ((Below.refl _ w10).alloc (Nat.le_refl _) (.cells #[.string ⟨#[122]⟩, .string ⟨#[122]⟩, .bool false] 64)))
            have HDB := Lib.hid (HDA.out.later ((Below.refl _ w10).alloc (Nat.le_refl _) (.cells #[.string ⟨#[122]⟩, .string ⟨#[122]⟩, .bool false] 64)))
            have hltA : ∀ k ∈ b2 :: Y, k < w10.heap.size := fun k hk => by
              rcases List.mem_cons.1 hk with rfl | hk
              · exact HLOA.out.lt
              · exact HLOA.out.o.d.lt k hk
            have HLTA := Lib.hid hltA
            clear hltA HLOA HDA
            go_wp2_with fail
            have hrm := room_any b2 db ⟨1, 59, 5, nx⟩ _ HLOB.out.l (show 59 ≤ 1000 by decide) (show nx ≤ 1000 by omega)
            simp only at hrm
            refine hrm.mono ?_
            clear hrm
            rintro e wC ⟨rfl, nq2, rfl⟩
            have HLOC := Lib.hid (HLOB.out.later (below_drewN (Below.refl _ _) nq2))
            have HDC := Lib.hid (HDB.out.later (below_drewN (Below.refl _ _) nq2))
            have HBC := Lib.hid (show ((w10.alloc (.cells #[.string ⟨#[122]⟩, .string ⟨#[122]⟩, .bool false] 64)).drewN nq2).heap[w10.heap.size]? = _ from HBA.out)
            generalize (w10.alloc (.cells #[.string ⟨#[122]⟩, .string ⟨#[122]⟩, .bool false] 64)).drewN nq2 = wC at *
            clear HLOB HDB HBA
            by_cases hroom : (59 : Int) - (nx : Int) < 2
            · go_wp2_with fail
              go_ret
              exact Ret.of rfl HLOC.out.o.below
            have hroom' : (2 : Int) ≤ (59 : Int) - (nx : Int) := by omega
            have HV := Lib.hid (show ChgP (fun k => k ∉ b2 :: Y) wC (.slice (some ⟨w10.heap.size, 0, none⟩) 1 1) [⟨⟨#[122]⟩, ⟨#[122]⟩, false⟩] from
              ⟨_, _, rfl, by unfold maxLen; decide, fun i c hc => by
                match i, hc with
                | 0, hc =>
                  cases hc
                  exact ⟨_, _, rfl, fun hm => by have := HLTA.out _ hm; omega, by rw [cell_of HBC.out]; rfl, by rw [cell_of HBC.out]; rfl, by rw [cell_of HBC.out]; rfl⟩⟩)
            go_wp2_with fail
            refine (app_ok HLOC.out HG.out HR.out [⟨⟨#[122]⟩, ⟨#[122]⟩, false⟩] rfl rfl rfl (by simp) (by show nx + 1 + 1 ≤ 59; omega) zz_ok _ HV.out).mono ?_
            rintro e wD ⟨rfl, Y2, E2, hR2, hG2, hLOD, hfr2, hFD⟩
            have HDD := Lib.hid (HDC.out.moved hFD hfr2)
            have HVD := Lib.hid (HV.out.moved hFD hfr2)
            have HGD := Lib.hid hG2
            have HRD := Lib.hid hR2
            have HLOD := Lib.hid hLOD
            clear hR2 hG2 hLOD hfr2 hFD HDC HV HLOC HLTA HBC
            have hfits2 : 1 + 59 ≤ E2.now.length := HGD.out.of_.fits
            go_wp2_with fail
            have hop := open_any db _ E2 1 59 5 wD HLOD.out.o.d (by omega) (by omega) (by omega) HRD.out.1 HGD.out.sz (by omega)
            rw [show scan 5 0 (secs E2 1 59) [] [] 0 = (g ++ [[⟨⟨#[122]⟩, ⟨#[122]⟩, false⟩]], nx + 1 + 1) from HGD.out.scan] at hop
            refine hop.mono ?_
            clear hop
            rintro e wE ⟨vE, rfl, hoE⟩
            obtain ⟨b3, vdE, rfl, -, hLOE, hdE, hblE⟩ := LogOne.opened (L := ⟨1, 59, 5, nx + 1 + 1⟩) HLOD.out.o hoE
            obtain ⟨aoE, capE, rfl, -⟩ := hdE.form
            rw [show (g ++ [[(⟨⟨#[122]⟩, ⟨#[122]⟩, false⟩ : Chg)]]).length = g.length + 1 by simp] at hdE ⊢
            have HDE := Lib.hid hdE
            have HLOE := Lib.hid hLOE
            have HGE := Lib.hid (HDD.out.later hblE)
            have HVE := Lib.hid (HVD.out.later hblE)
            clear hoE hdE hLOE HDD HVD
            obtain ⟨aoR, capR, vs, he, -, hvl, hsrc, hone, hel⟩ := HGE.out.row
            cases he
            have HVL := Lib.hid hvl
            have HSRC := Lib.hid hsrc
            have HONE := Lib.hid hone
            have HEL2 := Lib.hid hel
            clear hvl hsrc hone hel
            go_wp2_with (at_builtin; refine wpList_append_want (by kernel_rfl) (.const (.slice none 0 0)) (.tmp 131) 78 rfl wE.heap.size 36 i36 _ 1 24 Try.underlying78 gi gz0 gz1 gz2 rfl (by decide) (.slice none 0 0) 0 [] rfl (World.ownsRow_nil _ _ _ _) ao8 g.length cap8 vs rfl ?_ ?_ HONE.out g.length (Nat.zero_add _) (by unfold maxLen; omega) (by omega) ?_ ?_)
            · rw [Nat.mul_one]
              exact HVL.out
            · exact HSRC.out
            · exact Nat.le_refl _
            intro vF wF ho hg _
            have hBF : Below wE.heap.size wE wF := (Below.refl _ wE).grown hg (Nat.le_refl _) (fun k hk => by cases hk)
            have HOF := Lib.hid (show wF.ownsRow wE.heap.size 36 1 vF g.length vs from ho)
            have HBF := Lib.hid hBF
            clear ho hg hBF
            go_wp2_with (at_builtin; refine wpList_append_want (by kernel_rfl) (.tmp 132) (.tmp 134) 78 rfl wE.heap.size 36 i36 _ 1 24 Try.underlying78 gi gz0 gz1 gz2 rfl (by decide) vF g.length vs rfl (World.ownsRow.alloc (w := wF) HOF.out _) (some ⟨wF.heap.size, 0, none⟩) 1 1 [.slice (some ⟨w10.heap.size, 0, none⟩) 1 1] rfl rfl ?_ (by simp [Value.oneCell']) (g.length + 1) rfl (by unfold maxLen; omega) (by omega) ?_ ?_)
            · exact fun _ => ⟨_, rfl, fun j u hu => by
                rw [addr_add]
                exact (cell_of (heap_alloc_new wF _) j).trans (by simpa using hu)⟩
            · exact Nat.le_trans HBF.out.size (by simp)
            intro vH wH ho hg _
            have HBH := Lib.hid ((HBF.out.alloc HBF.out.size _).grown hg (Nat.le_trans HBF.out.size (by simp)) (fun k hk => (World.ownsRow.lt HOF.out k hk).1))
            obtain ⟨aoH, capH, rfl⟩ := owns_form ho
            have hltE : ∀ k ∈ b2 :: Y2, k < wE.heap.size := fun k hk => by
              rcases List.mem_cons.1 hk with rfl | hk
              · exact Nat.lt_of_lt_of_le HLOD.out.lt hblE.size
              · exact HLOE.out.o.d.lt k hk
            have HWH := Lib.hid (snoc_deeds hltE ho rfl HVL.out HEL2.out HVE.out HBH.out)
            have hs := same_deeds _ _ _ _ (g ++ [[⟨⟨#[122]⟩, ⟨#[122]⟩, false⟩]]) _ wH (HDE.out.later HBH.out) HWH.out (by simp; omega) (fun x hx => by
              rcases List.mem_append.1 hx with hx | hx
              · have := HGL.out.2 x hx
                omega
              · obtain rfl := List.mem_singleton.1 hx
                exact (by decide : 1 ≤ 1000))
            rw [(sameD_eq _ _).2 rfl] at hs
            clear ho hg hltE
            go_wp2_with fail
            refine hs.mono ?_
            rintro e wI ⟨rfl, hBI⟩
            have HEND := Lib.hid (HLOE.out.o.below.trans ((HBH.out.trans (hBI.mono HBH.out.size)).mono (Nat.le_trans HLOE.out.o.size HLOE.out.o.below.size)))
            clear hs hBI
            go_wp2_with fail
            go_ret
            exact Ret.of rfl HEND.out
          · clear hx HLO8 HD8 HL9 HL8 HW8
            have HLOA := Lib.hid HLO9.out
            have HDA := Lib.hid HD9.out
            clear HLO9 HD9
            have HBA := Lib.hid (heap_alloc_new w9 (.cells #[.string ⟨#[122]⟩, .string ⟨#[122]⟩, .bool false] 64))
            have HLOB := Lib.hid (HLOA.out.later ((Below.refl _ w9).alloc (Nat.le_refl _) (.cells #[.string ⟨#[122]⟩, .string ⟨#[122]⟩, .bool false] 64)))
            have HDB := Lib.hid (HDA.out.later ((Below.refl _ w9).alloc (Nat.le_refl _) (.cells #[.string ⟨#[122]⟩, .string ⟨#[122]⟩, .bool false] 64)))
            have hltA : ∀ k ∈ b2 :: Y, k < w9.heap.size := fun k hk => by
              rcases List.mem_cons.1 hk with rfl | hk
              · exact HLOA.out.lt
              · exact HLOA.out.o.d.lt k hk
            have HLTA := Lib.hid hltA
            clear hltA HLOA HDA
            go_wp2_with fail
            have hrm := room_any b2 db ⟨1, 59, 5, nx⟩ _ HLOB.out.l (show 59 ≤ 1000 by decide) (show nx ≤ 1000 by omega)
            simp only at hrm
            refine hrm.mono ?_
            clear hrm
            rintro e wC ⟨rfl, nq2, rfl⟩
            have HLOC := Lib.hid (HLOB.out.later (below_drewN (Below.refl _ _) nq2))
            have HDC := Lib.hid (HDB.out.later (below_drewN (Below.refl _ _) nq2))
            have HBC := Lib.hid (show ((w9.alloc (.cells #[.string ⟨#[122]⟩, .string ⟨#[122]⟩, .bool false] 64)).drewN nq2).heap[w9.heap.size]? = _ from HBA.out)
            generalize (w9.alloc (.cells #[.string ⟨#[122]⟩, .string ⟨#[122]⟩, .bool false] 64)).drewN nq2 = wC at *
            clear HLOB HDB HBA
            by_cases hroom : (59 : Int) - (nx : Int) < 2
            · go_wp2_with fail
              go_ret
              exact Ret.of rfl HLOC.out.o.below
            have hroom' : (2 : Int) ≤ (59 : Int) - (nx : Int) := by omega
            have HV := Lib.hid (show ChgP (fun k => k ∉ b2 :: Y) wC (.slice (some ⟨w9.heap.size, 0, none⟩) 1 1) [⟨⟨#[122]⟩, ⟨#[122]⟩, false⟩] from
              ⟨_, _, rfl, by unfold maxLen; decide, fun i c hc => by
                match i, hc with
                | 0, hc =>
                  cases hc
                  exact ⟨_, _, rfl, fun hm => by have := HLTA.out _ hm; omega, by rw [cell_of HBC.out]; rfl, by rw [cell_of HBC.out]; rfl, by rw [cell_of HBC.out]; rfl⟩⟩)
            go_wp2_with fail
            refine (app_ok HLOC.out HG.out HR.out [⟨⟨#[122]⟩, ⟨#[122]⟩, false⟩] rfl rfl rfl (by simp) (by show nx + 1 + 1 ≤ 59; omega) zz_ok _ HV.out).mono ?_
            rintro e wD ⟨rfl, Y2, E2, hR2, hG2, hLOD, hfr2, hFD⟩
            have HDD := Lib.hid (HDC.out.moved hFD hfr2)
            have HVD := Lib.hid (HV.out.moved hFD hfr2)
            have HGD := Lib.hid hG2
            have HRD := Lib.hid hR2
            have HLOD := Lib.hid hLOD
            clear hR2 hG2 hLOD hfr2 hFD HDC HV HLOC HLTA HBC
            have hfits2 : 1 + 59 ≤ E2.now.length := HGD.out.of_.fits
            go_wp2_with fail
            have hop := open_any db _ E2 1 59 5 wD HLOD.out.o.d (by omega) (by omega) (by omega) HRD.out.1 HGD.out.sz (by omega)
            rw [show scan 5 0 (secs E2 1 59) [] [] 0 = (g ++ [[⟨⟨#[122]⟩, ⟨#[122]⟩, false⟩]], nx + 1 + 1) from HGD.out.scan] at hop
            refine hop.mono ?_
            clear hop
            rintro e wE ⟨vE, rfl, hoE⟩
            obtain ⟨b3, vdE, rfl, -, hLOE, hdE, hblE⟩ := LogOne.opened (L := ⟨1, 59, 5, nx + 1 + 1⟩) HLOD.out.o hoE
            obtain ⟨aoE, capE, rfl, -⟩ := hdE.form
            rw [show (g ++ [[(⟨⟨#[122]⟩, ⟨#[122]⟩, false⟩ : Chg)]]).length = g.length + 1 by simp] at hdE ⊢
            have HDE := Lib.hid hdE
            have HLOE := Lib.hid hLOE
            have HGE := Lib.hid (HDD.out.later hblE)
            have HVE := Lib.hid (HVD.out.later hblE)
            clear hoE hdE hLOE HDD HVD
            obtain ⟨aoR, capR, vs, he, -, hvl, hsrc, hone, hel⟩ := HGE.out.row
            cases he
            have HVL := Lib.hid hvl
            have HSRC := Lib.hid hsrc
            have HONE := Lib.hid hone
            have HEL2 := Lib.hid hel
            clear hvl hsrc hone hel
            go_wp2_with (at_builtin; refine wpList_append_want (by kernel_rfl) (.const (.slice none 0 0)) (.tmp 131) 78 rfl wE.heap.size 36 i36 _ 1 24 Try.underlying78 gi gz0 gz1 gz2 rfl (by decide) (.slice none 0 0) 0 [] rfl (World.ownsRow_nil _ _ _ _) ao8 g.length cap8 vs rfl ?_ ?_ HONE.out g.length (Nat.zero_add _) (by unfold maxLen; omega) (by omega) ?_ ?_)
            · rw [Nat.mul_one]
              exact HVL.out
            · exact HSRC.out
            · exact Nat.le_refl _
            intro vF wF ho hg _
            have hBF : Below wE.heap.size wE wF := (Below.refl _ wE).grown hg (Nat.le_refl _) (fun k hk => by cases hk)
            have HOF := Lib.hid (show wF.ownsRow wE.heap.size 36 1 vF g.length vs from ho)
            have HBF := Lib.hid hBF
            clear ho hg hBF
            go_wp2_with (at_builtin; refine wpList_append_want (by kernel_rfl) (.tmp 132) (.tmp 134) 78 rfl wE.heap.size 36 i36 _ 1 24 Try.underlying78 gi gz0 gz1 gz2 rfl (by decide) vF g.length vs rfl (World.ownsRow.alloc (w := wF) HOF.out _) (some ⟨wF.heap.size, 0, none⟩) 1 1 [.slice (some ⟨w9.heap.size, 0, none⟩) 1 1] rfl rfl ?_ (by simp [Value.oneCell']) (g.length + 1) rfl (by unfold maxLen; omega) (by omega) ?_ ?_)
            · exact fun _ => ⟨_, rfl, fun j u hu => by
                rw [addr_add]
                exact (cell_of (heap_alloc_new wF _) j).trans (by simpa using hu)⟩
            · exact Nat.le_trans HBF.out.size (by simp)
            intro vH wH ho hg _
            have HBH := Lib.hid ((HBF.out.alloc HBF.out.size _).grown hg (Nat.le_trans HBF.out.size (by simp)) (fun k hk => (World.ownsRow.lt HOF.out k hk).1))
            obtain ⟨aoH, capH, rfl⟩ := owns_form ho
            have hltE : ∀ k ∈ b2 :: Y2, k < wE.heap.size := fun k hk => by
              rcases List.mem_cons.1 hk with rfl | hk
              · exact Nat.lt_of_lt_of_le HLOD.out.lt hblE.size
              · exact HLOE.out.o.d.lt k hk
            have HWH := Lib.hid (snoc_deeds hltE ho rfl HVL.out HEL2.out HVE.out HBH.out)
            have hs := same_deeds _ _ _ _ (g ++ [[⟨⟨#[122]⟩, ⟨#[122]⟩, false⟩]]) _ wH (HDE.out.later HBH.out) HWH.out (by simp; omega) (fun x hx => by
              rcases List.mem_append.1 hx with hx | hx
              · have := HGL.out.2 x hx
                omega
              · obtain rfl := List.mem_singleton.1 hx
                exact (by decide : 1 ≤ 1000))
            rw [(sameD_eq _ _).2 rfl] at hs
            clear ho hg hltE
            go_wp2_with fail
            refine hs.mono ?_
            rintro e wI ⟨rfl, hBI⟩
            have HEND := Lib.hid (HLOE.out.o.below.trans ((HBH.out.trans (hBI.mono HBH.out.size)).mono (Nat.le_trans HLOE.out.o.size HLOE.out.o.below.size)))
            clear hs hBI
            go_wp2_with fail
            go_ret
            exact Ret.of rfl HEND.out
      · go_wp2_with fail
        have hB5 : Below w3.heap.size w3 (w3.alloc (.cells #[.slice aou d.length capu] 36)).drew := ((Below.refl _ w3).alloc (Nat.le_refl _) _).drew
        have hcell := fun j => cell_of (w := (w3.alloc (.cells #[.slice aou d.length capu] 36)).drew) (heap_alloc_new w3 (.cells #[.slice aou d.length capu] 36)) j
        have HCELL := Lib.hid hcell
        refine OnlyNormal.mk ⟨hB5, ?_⟩
        have HB5 := Lib.hid hB5
        clear hB5 hcell
        generalize hw5 : (w3.alloc (.cells #[.slice aou d.length capu] 36)).drew = w5 at *
        have HW5 := Lib.hid hw5
        clear hw5
        apply wpStages_seqkeep
        simp only [picked, List.filterMap_cons, List.filterMap_nil, List.getElem?_cons_zero, List.getElem?_cons_succ]
        refine wpList_append_any rfl (.const (.slice none 0 0)) (.tmp 72) 78 rfl w3.heap.size 36 i36 _ 1 24 Try.underlying78 gi gz0 gz1 gz2 rfl (by decide) (.slice none 0 0) 0 [] rfl (World.ownsRow_nil _ _ _ _) aow ds.length capw vs rfl ?_ ?_ HONE.out ds.length (Nat.zero_add _) (by unfold maxLen; omega) (by omega) ?_ ?_
        · rw [Nat.mul_one]
          exact HVL.out
        · intro h0
          obtain ⟨ad, e1, e2⟩ := HSRC.out h0
          exact ⟨ad, e1, fun j u hu => (HB5.out.cell (World.block_lt_of_cell? w3 _ (e2 j u hu))).trans (e2 j u hu)⟩
        · exact HB5.out.size
        intro v1 w4 ho hg hat
        have hB4 : Below w3.heap.size w3 w4 := HB5.out.grown hg HB5.out.size (fun k hk => by cases hk)
        have HO4 := Lib.hid (show w4.ownsRow w3.heap.size 36 1 v1 ds.length vs from ho)
        have HB4 := Lib.hid hB4
        have hc4 : w4.cell? ⟨w3.heap.size, 0, none⟩ = some (.slice aou d.length capu) := by
          have h1 : w5.cell? ⟨w3.heap.size, 0, none⟩ = some (.slice aou d.length capu) := HCELL.out 0
          exact ((Frame.refl [] w5).grown hg (fun k hk => by cases hk)).cell h1 (by simp)
        have HC4 := Lib.hid hc4
        refine OnlyNormal.mk ⟨hB4, ?_⟩
        clear ho hg hat hB4 hc4
        apply wpStages_seq
        simp only [picked, List.filterMap_cons, List.filterMap_nil, List.getElem?_cons_zero, List.getElem?_cons_succ]
        refine wpList_append_any rfl (.tmp 73) (.tmp 78) 78 rfl w3.heap.size 36 i36 _ 1 24 Try.underlying78 gi gz0 gz1 gz2 rfl (by decide) v1 ds.length vs rfl HO4.out (some ⟨w3.heap.size, 0, none⟩) 1 1 [.slice aou d.length capu] rfl rfl ?_ (by simp [Value.oneCell']) (ds.length + 1) rfl (by unfold maxLen; omega) (by omega) ?_ ?_
        · exact fun _ => ⟨_, rfl, fun j u hu => by
            rw [addr_add]
            match j, hu with
            | 0, hu => cases hu; exact HC4.out⟩
        · exact HB4.out.size
        intro v2 w6 ho hg hat
        have HB6 := Lib.hid (HB4.out.grown hg HB4.out.size (fun k hk => (World.ownsRow.lt HO4.out k hk).1))
        obtain ⟨ao6, cap6, rfl⟩ := owns_form ho
        have hlt3 : ∀ k ∈ b :: Y, k < w3.heap.size := fun k hk => by
          rcases List.mem_cons.1 hk with rfl | hk
          · exact HLO3.out.lt
          · exact HLO3.out.o.d.lt k hk
        have HW6 := Lib.hid (snoc_deeds hlt3 ho rfl HVL.out HEL3.out HU3.out HB6.out)
        clear ho hg hat hlt3 HB4 HO4
        have HLO6 := Lib.hid (HLO3.out.later HB6.out)
        have HWW6 := Lib.hid (HW3.out.later HB6.out)
        go_wp2_with fail
        refine OnlyNormal.mk (wpStages_nil ?_)
        rcases HCS.out with ⟨rfl, rfl, hg', c4⟩ | ⟨c1, c2, rfl, rfl⟩ | ⟨rfl, rfl, c3⟩
        · rw [show errV 0 = .nilIface from rfl]
          clear HCS
          have HGG := Lib.hid hg'
          clear hg' c4
          go_wp2_with fail
          refine ⟨⟨k + 1, Y, D', Lr.more d, ds ++ [d], by omega, by go_num, ⟨HLO6.out, HGG.out, hfr, hmny, hfst, HW6.out, HW6.out, ?_, ?_⟩⟩, by simp [intOf]; omega⟩
          · simp; omega
          · intro x hx
            rcases List.mem_append.1 hx with hx | hx
            · exact HTL.out.el x hx
            · obtain rfl : x = d := by simpa using hx
              exact hdl
        · clear HCS
          have hnum := fun w => number_any m w
          rw [show errV m = .iface 101 (.int .i64 (m : Int)) by simp [errV, c1]] at hnum ⊢
          have c2' : ¬ (m : Int) = 10 := by omega
          clear c1 c2
          go_wp2_with fail
          refine (hnum _).mono ?_
          rintro e w7 ⟨rfl, rfl⟩
          go_wp2_with fail
          exact ⟨⟨k + 1, Y, D', L', ds, by omega, by go_num, ⟨HLO6.out, HTL.out.good, hfr, hmny, hfst, HWW6.out, HWW6.out, by omega, HTL.out.el⟩⟩, by simp [intOf]; omega⟩
        · have HTE := Lib.hid (show TEnd D' keep ds (ds ++ [d]) by
            intros
            rcases c3 keep with h | h
            · exact ⟨L', ds, h, .inl rfl, hfr, hmny, hfst⟩
            · exact ⟨L'.more d, _, h, .inr rfl, hfr, hmny, hfst⟩)
          have HEW := Lib.hid (show ds.length ≤ 8 ∧ (ds ++ [d]).length ≤ 9 ∧ (∀ x ∈ ds, x.length ≤ 14) ∧ ∀ x ∈ ds ++ [d], x.length ≤ 14 from ⟨by omega, by simp; omega, HTL.out.el, fun x hx => by
            rcases List.mem_append.1 hx with hx | hx
            · exact HTL.out.el x hx
            · obtain rfl : x = d := by simpa using hx
              exact hdl⟩)
          clear HCS c3
          have hnum := fun w => number_any 10 w
          rw [show errV 10 = .iface 101 (.int .i64 10) from rfl] at hnum ⊢
          go_wp2_with fail
          refine (hnum _).mono ?_
          rintro e w7 ⟨rfl, rfl⟩
          clear hnum
          go_wp2_with fail
          clear HTL
          have hwt : D'.wait.length < 10000 := HWAIT.out
          refine (restart_any db _ D' keep _ HLO6.out.o.d hwt HK.out).mono ?_
          rintro e w7 ⟨rfl, hD7, hF7⟩
          obtain ⟨⟨fr, mn, fs, nx⟩, g, hG, hor, e1, e2, e3⟩ := HTE.out
          simp only at e1 e2 e3
          subst e1 e2 e3
          have hR : (D'.restart keep).Ready := (restart_now D' keep).2.2.2
          have HO7 := Lib.hid (HLO6.out.o.moved hD7 hF7 (Fresh.refl _ _))
          have HW7 := Lib.hid (HWW6.out.moved0 hF7)
          have HL7 := Lib.hid (HW6.out.moved0 hF7)
          clear hD7 hF7 HTE hwt HWAIT
          generalize D'.restart keep = E at *
          have HG := Lib.hid hG
          have HR := Lib.hid hR
          have hfits := hG.of_.fits
          have hnx := hG.of_.next_le
          simp only at hfits hnx
          have hgl : g.length ≤ 9 ∧ ∀ x ∈ g, x.length ≤ 14 := by
            have := HEW.out
            rcases hor with rfl | rfl
            · exact ⟨by omega, this.2.2.1⟩
            · exact ⟨by omega, this.2.2.2⟩
          have HOR := Lib.hid hor
          have HGL := Lib.hid hgl
          obtain ⟨hg9, -⟩ := hgl
          have hscan : scan 5 0 (secs E 1 59) [] [] 0 = (g, nx) := HG.out.scan
          have HSCAN := Lib.hid hscan
          clear hG hR hor hscan
          go_wp2_with fail
          have hop := open_any db _ E 1 59 5 w7 HO7.out.d (by omega) (by omega) (by omega) HR.out.1 HG.out.sz (by omega)
          rw [HSCAN.out] at hop
          refine hop.mono ?_
          clear hop
          rintro e w8 ⟨v8, rfl, ho8⟩
          obtain ⟨b2, vd8, rfl, -, hLO8, hd8, hbl8⟩ := LogOne.opened (L := ⟨1, 59, 5, nx⟩) (ds := g) HO7.out ho8
          obtain ⟨ao8, cap8, rfl, -⟩ := hd8.form
          have HLO8 := Lib.hid hLO8
          have HD8 := Lib.hid hd8
          have HW8 := Lib.hid (HW7.out.later hbl8)
          have HL8 := Lib.hid (HL7.out.later hbl8)
          clear ho8 hLO8 hd8 hbl8 HW7 HL7
          go_wp2_with fail
          refine (same_deeds _ _ _ _ g ds w8 HD8.out HW8.out (by omega) (fun x hx => by have := HGL.out.2 x hx; omega)).mono ?_
          rintro e w9 ⟨rfl, hB9⟩
          have HLO9 := Lib.hid (HLO8.out.later hB9)
          have HD9 := Lib.hid (HD8.out.later hB9)
          have HL9 := Lib.hid (HL8.out.later hB9)
          clear hB9
          cases hx : sameD g ds
          · have hx2 : sameD g (ds ++ [d]) = true := by
              rcases HOR.out with h | h
              · rw [(sameD_eq g ds).2 h] at hx
                cases hx
              · exact (sameD_eq _ _).2 h
            have hsame := same_deeds _ _ _ _ g (ds ++ [d]) w9 HD9.out HL9.out (by omega) (fun x hx => by have := HGL.out.2 x hx; omega)
            rw [hx2] at hsame
            clear hx hx2
            go_wp2_with fail
            refine hsame.mono ?_
            rintro e w10 ⟨rfl, hB10⟩
            have HLOA := Lib.hid (HLO9.out.later hB10)
            have HDA := Lib.hid (HD9.out.later hB10)
            clear hB10 hsame HLO9 HD9 HLO8 HD8 HL9 HL8 HW8
            have HBA := Lib.hid (heap_alloc_new w10 (.cells #[.string ⟨#[122]⟩, .string ⟨#[122]⟩, .bool false] 64))
            have HLOB := Lib.hid (HLOA.out.later ((Below.refl _ w10).alloc (Nat.le_refl _) (.cells #[.string ⟨#[122]⟩, .string ⟨#[122]⟩, .bool false] 64)))
            have HDB := Lib.hid (HDA.out.later ((Below.refl _ w10).alloc (Nat.le_refl _) (.cells #[.string ⟨#[122]⟩, .string ⟨#[122]⟩, .bool false] 64)))
            have hltA : ∀ k ∈ b2 :: Y, k < w10.heap.size := fun k hk => by
              rcases List.mem_cons.1 hk with rfl | hk
              · exact HLOA.out.lt
              · exact HLOA.out.o.d.lt k hk
            have HLTA := Lib.hid hltA
            clear hltA HLOA HDA
            go_wp2_with fail
            have hrm := room_any b2 db ⟨1, 59, 5, nx⟩ _ HLOB.out.l (show 59 ≤ 1000 by decide) (show nx ≤ 1000 by omega)
            simp only at hrm
            refine hrm.mono ?_
            clear hrm
            rintro e wC ⟨rfl, nq2, rfl⟩
            have HLOC := Lib.hid (HLOB.out.later (below_drewN (Below.refl _ _) nq2))
            have HDC := Lib.hid (HDB.out.later (below_drewN (Below.refl _ _) nq2))
            have HBC := Lib.hid (show ((w10.alloc (.cells #[.string ⟨#[122]⟩, .string ⟨#[122]⟩, .bool false] 64)).drewN nq2).heap[w10.heap.size]? = _ from HBA.out)
            generalize (w10.alloc (.cells #[.string ⟨#[122]⟩, .string ⟨#[122]⟩, .bool false] 64)).drewN nq2 = wC at *
            clear HLOB HDB HBA
            by_cases hroom : (59 : Int) - (nx : Int) < 2
            · go_wp2_with fail
              go_ret
              exact Ret.of rfl HLOC.out.o.below
            have hroom' : (2 : Int) ≤ (59 : Int) - (nx : Int) := by omega
            have HV := Lib.hid (show ChgP (fun k => k ∉ b2 :: Y) wC (.slice (some ⟨w10.heap.size, 0, none⟩) 1 1) [⟨⟨#[122]⟩, ⟨#[122]⟩, false⟩] from
              ⟨_, _, rfl, by unfold maxLen; decide, fun i c hc => by
                match i, hc with
                | 0, hc =>
                  cases hc
                  exact ⟨_, _, rfl, fun hm => by have := HLTA.out _ hm; omega, by rw [cell_of HBC.out]; rfl, by rw [cell_of HBC.out]; rfl, by rw [cell_of HBC.out]; rfl⟩⟩)
            go_wp2_with fail
            refine (app_ok HLOC.out HG.out HR.out [⟨⟨#[122]⟩, ⟨#[122]⟩, false⟩] rfl rfl rfl (by simp) (by show nx + 1 + 1 ≤ 59; omega) zz_ok _ HV.out).mono ?_
            rintro e wD ⟨rfl, Y2, E2, hR2, hG2, hLOD, hfr2, hFD⟩
            have HDD := Lib.hid (HDC.out.moved hFD hfr2)
            have HVD := Lib.hid (HV.out.moved hFD hfr2)
            have HGD := Lib.hid hG2
            have HRD := Lib.hid hR2
            have HLOD := Lib.hid hLOD
            clear hR2 hG2 hLOD hfr2 hFD HDC HV HLOC HLTA HBC
            have hfits2 : 1 + 59 ≤ E2.now.length := HGD.out.of_.fits
            go_wp2_with fail
            have hop := open_any db _ E2 1 59 5 wD HLOD.out.o.d (by omega) (by omega) (by omega) HRD.out.1 HGD.out.sz (by omega)
            rw [show scan 5 0 (secs E2 1 59) [] [] 0 = (g ++ [[⟨⟨#[122]⟩, ⟨#[122]⟩, false⟩]], nx + 1 + 1) from HGD.out.scan] at hop
            refine hop.mono ?_
            clear hop
            rintro e wE ⟨vE, rfl, hoE⟩
            obtain ⟨b3, vdE, rfl, -, hLOE, hdE, hblE⟩ := LogOne.opened (L := ⟨1, 59, 5, nx + 1 + 1⟩) HLOD.out.o hoE
            obtain ⟨aoE, capE, rfl, -⟩ := hdE.form
            rw [show (g ++ [[(⟨⟨#[122]⟩, ⟨#[122]⟩, false⟩ : Chg)]]).length = g.length + 1 by simp] at hdE ⊢
            have HDE := Lib.hid hdE
            have HLOE := Lib.hid hLOE
            have HGE := Lib.hid (HDD.out.later hblE)
            have HVE := Lib.hid (HVD.out.later hblE)
            clear hoE hdE hLOE HDD HVD
            obtain ⟨aoR, capR, vs, he, -, hvl, hsrc, hone, hel⟩ := HGE.out.row
            cases he
            have HVL := Lib.hid hvl
            have HSRC := Lib.hid hsrc
            have HONE := Lib.hid hone
            have HEL2 := Lib.hid hel
            clear hvl hsrc hone hel
            go_wp2_with (at_builtin; refine wpList_append_want (by kernel_rfl) (.const (.slice none 0 0)) (.tmp 131) 78 rfl wE.heap.size 36 i36 _ 1 24 Try.underlying78 gi gz0 gz1 gz2 rfl (by decide) (.slice none 0 0) 0 [] rfl (World.ownsRow_nil _ _ _ _) ao8 g.length cap8 vs rfl ?_ ?_ HONE.out g.length (Nat.zero_add _) (by unfold maxLen; omega) (by omega) ?_ ?_)
            · rw [Nat.mul_one]
              exact HVL.out
            · exact HSRC.out
            · exact Nat.le_refl _
            intro vF wF ho hg _
            have hBF : Below wE.heap.size wE wF := (Below.refl _ wE).grown hg (Nat.le_refl _) (fun k hk => by cases hk)
            have HOF := Lib.hid (show wF.ownsRow wE.heap.size 36 1 vF g.length vs from ho)
            have HBF := Lib.hid hBF
            clear ho hg hBF
            go_wp2_with (at_builtin; refine wpList_append_want (by kernel_rfl) (.tmp 132) (.tmp 134) 78 rfl wE.heap.size 36 i36 _ 1 24 Try.underlying78 gi gz0 gz1 gz2 rfl (by decide) vF g.length vs rfl (World.ownsRow.alloc (w := wF) HOF.out _) (some ⟨wF.heap.size, 0, none⟩) 1 1 [.slice (some ⟨w10.heap.size, 0, none⟩) 1 1] rfl rfl ?_ (by simp [Value.oneCell']) (g.length + 1) rfl (by unfold maxLen; omega) (by omega) ?_ ?_)
            · exact fun _ => ⟨_, rfl, fun j u hu => by
                rw [addr_add]
                exact (cell_of (heap_alloc_new wF _) j).trans (by simpa using hu)⟩
            · exact Nat.le_trans HBF.out.size (by simp)
            intro vH wH ho hg _
            have HBH := Lib.hid ((HBF.out.alloc HBF.out.size _).grown hg (Nat.le_trans HBF.out.size (by simp)) (fun k hk => (World.ownsRow.lt HOF.out k hk).1))
            obtain ⟨aoH, capH, rfl⟩ := owns_form ho
            have hltE : ∀ k ∈ b2 :: Y2, k < wE.heap.size := fun k hk => by
              rcases List.mem_cons.1 hk with rfl | hk
              · exact Nat.lt_of_lt_of_le HLOD.out.lt hblE.size
              · exact HLOE.out.o.d.lt k hk
            have HWH := Lib.hid (snoc_deeds hltE ho rfl HVL.out HEL2.out HVE.out HBH.out)
            have hs := same_deeds _ _ _ _ (g ++ [[⟨⟨#[122]⟩, ⟨#[122]⟩, false⟩]]) _ wH (HDE.out.later HBH.out) HWH.out (by simp; omega) (fun x hx => by
              rcases List.mem_append.1 hx with hx | hx
              · have := HGL.out.2 x hx
                omega
              · obtain rfl := List.mem_singleton.1 hx
                exact (by decide : 1 ≤ 1000))
            rw [(sameD_eq _ _).2 rfl] at hs
            clear ho hg hltE
            go_wp2_with fail
            refine hs.mono ?_
            rintro e wI ⟨rfl, hBI⟩
            have HEND := Lib.hid (HLOE.out.o.below.trans ((HBH.out.trans (hBI.mono HBH.out.size)).mono (Nat.le_trans HLOE.out.o.size HLOE.out.o.below.size)))
            clear hs hBI
            go_wp2_with fail
            go_ret
            exact Ret.of rfl HEND.out
          · clear hx HLO8 HD8 HL9 HL8 HW8
            have HLOA := Lib.hid HLO9.out
            have HDA := Lib.hid HD9.out
            clear HLO9 HD9
            have HBA := Lib.hid (heap_alloc_new w9 (.cells #[.string ⟨#[122]⟩, .string ⟨#[122]⟩, .bool false] 64))
            have HLOB := Lib.hid (HLOA.out.later ((Below.refl _ w9).alloc (Nat.le_refl _) (.cells #[.string ⟨#[122]⟩, .string ⟨#[122]⟩, .bool false] 64)))
            have HDB := Lib.hid (HDA.out.later ((Below.refl _ w9).alloc (Nat.le_refl _) (.cells #[.string ⟨#[122]⟩, .string ⟨#[122]⟩, .bool false] 64)))
            have hltA : ∀ k ∈ b2 :: Y, k < w9.heap.size := fun k hk => by
              rcases List.mem_cons.1 hk with rfl | hk
              · exact HLOA.out.lt
              · exact HLOA.out.o.d.lt k hk
            have HLTA := Lib.hid hltA
            clear hltA HLOA HDA
            go_wp2_with fail
            have hrm := room_any b2 db ⟨1, 59, 5, nx⟩ _ HLOB.out.l (show 59 ≤ 1000 by decide) (show nx ≤ 1000 by omega)
            simp only at hrm
            refine hrm.mono ?_
            clear hrm
            rintro e wC ⟨rfl, nq2, rfl⟩
            have HLOC := Lib.hid (HLOB.out.later (below_drewN (Below.refl _ _) nq2))
            have HDC := Lib.hid (HDB.out.later (below_drewN (Below.refl _ _) nq2))
            have HBC := Lib.hid (show ((w9.alloc (.cells #[.string ⟨#[122]⟩, .string ⟨#[122]⟩, .bool false] 64)).drewN nq2).heap[w9.heap.size]? = _ from HBA.out)
            generalize (w9.alloc (.cells #[.string ⟨#[122]⟩, .string ⟨#[122]⟩, .bool false] 64)).drewN nq2 = wC at *
            clear HLOB HDB HBA
            by_cases hroom : (59 : Int) - (nx : Int) < 2
            · go_wp2_with fail
              go_ret
              exact Ret.of rfl HLOC.out.o.below
            have hroom' : (2 : Int) ≤ (59 : Int) - (nx : Int) := by omega
            have HV := Lib.hid (show ChgP (fun k => k ∉ b2 :: Y) wC (.slice (some ⟨w9.heap.size, 0, none⟩) 1 1) [⟨⟨#[122]⟩, ⟨#[122]⟩, false⟩] from
              ⟨_, _, rfl, by unfold maxLen; decide, fun i c hc => by
                match i, hc with
                | 0, hc =>
                  cases hc
                  exact ⟨_, _, rfl, fun hm => by have := HLTA.out _ hm; omega, by rw [cell_of HBC.out]; rfl, by rw [cell_of HBC.out]; rfl, by rw [cell_of HBC.out]; rfl⟩⟩)
            go_wp2_with fail
            refine (app_ok HLOC.out HG.out HR.out [⟨⟨#[122]⟩, ⟨#[122]⟩, false⟩] rfl rfl rfl (by simp) (by show nx + 1 + 1 ≤ 59; omega) zz_ok _ HV.out).mono ?_
            rintro e wD ⟨rfl, Y2, E2, hR2, hG2, hLOD, hfr2, hFD⟩
            have HDD := Lib.hid (HDC.out.moved hFD hfr2)
            have HVD := Lib.hid (HV.out.moved hFD hfr2)
            have HGD := Lib.hid hG2
            have HRD := Lib.hid hR2
            have HLOD := Lib.hid hLOD
            clear hR2 hG2 hLOD hfr2 hFD HDC HV HLOC HLTA HBC
            have hfits2 : 1 + 59 ≤ E2.now.length := HGD.out.of_.fits
            go_wp2_with fail
            have hop := open_any db _ E2 1 59 5 wD HLOD.out.o.d (by omega) (by omega) (by omega) HRD.out.1 HGD.out.sz (by omega)
            rw [show scan 5 0 (secs E2 1 59) [] [] 0 = (g ++ [[⟨⟨#[122]⟩, ⟨#[122]⟩, false⟩]], nx + 1 + 1) from HGD.out.scan] at hop
            refine hop.mono ?_
            clear hop
            rintro e wE ⟨vE, rfl, hoE⟩
            obtain ⟨b3, vdE, rfl, -, hLOE, hdE, hblE⟩ := LogOne.opened (L := ⟨1, 59, 5, nx + 1 + 1⟩) HLOD.out.o hoE
            obtain ⟨aoE, capE, rfl, -⟩ := hdE.form
            rw [show (g ++ [[(⟨⟨#[122]⟩, ⟨#[122]⟩, false⟩ : Chg)]]).length = g.length + 1 by simp] at hdE ⊢
            have HDE := Lib.hid hdE
            have HLOE := Lib.hid hLOE
            have HGE := Lib.hid (HDD.out.later hblE)
            have HVE := Lib.hid (HVD.out.later hblE)
            clear hoE hdE hLOE HDD HVD
            obtain ⟨aoR, capR, vs, he, -, hvl, hsrc, hone, hel⟩ := HGE.out.row
            cases he
            have HVL := Lib.hid hvl
            have HSRC := Lib.hid hsrc
            have HONE := Lib.hid hone
            have HEL2 := Lib.hid hel
            clear hvl hsrc hone hel
            go_wp2_with (at_builtin; refine wpList_append_want (by kernel_rfl) (.const (.slice none 0 0)) (.tmp 131) 78 rfl wE.heap.size 36 i36 _ 1 24 Try.underlying78 gi gz0 gz1 gz2 rfl (by decide) (.slice none 0 0) 0 [] rfl (World.ownsRow_nil _ _ _ _) ao8 g.length cap8 vs rfl ?_ ?_ HONE.out g.length (Nat.zero_add _) (by unfold maxLen; omega) (by omega) ?_ ?_)
            · rw [Nat.mul_one]
              exact HVL.out
            · exact HSRC.out
            · exact Nat.le_refl _
            intro vF wF ho hg _
            have hBF : Below wE.heap.size wE wF := (Below.refl _ wE).grown hg (Nat.le_refl _) (fun k hk => by cases hk)
            have HOF := Lib.hid (show wF.ownsRow wE.heap.size 36 1 vF g.length vs from ho)
            have HBF := Lib.hid hBF
            clear ho hg hBF
            go_wp2_with (at_builtin; refine wpList_append_want (by kernel_rfl) (.tmp 132) (.tmp 134) 78 rfl wE.heap.size 36 i36 _ 1 24 Try.underlying78 gi gz0 gz1 gz2 rfl (by decide) vF g.length vs rfl (World.ownsRow.alloc (w := wF) HOF.out _) (some ⟨wF.heap.size, 0, none⟩) 1 1 [.slice (some ⟨w9.heap.size, 0, none⟩) 1 1] rfl rfl ?_ (by simp [Value.oneCell']) (g.length + 1) rfl (by unfold maxLen; omega) (by omega) ?_ ?_)
            · exact fun _ => ⟨_, rfl, fun j u hu => by
                rw [addr_add]
                exact (cell_of (heap_alloc_new wF _) j).trans (by simpa using hu)⟩
            · exact Nat.le_trans HBF.out.size (by simp)
            intro vH wH ho hg _
            have HBH := Lib.hid ((HBF.out.alloc HBF.out.size _).grown hg (Nat.le_trans HBF.out.size (by simp)) (fun k hk => (World.ownsRow.lt HOF.out k hk).1))
            obtain ⟨aoH, capH, rfl⟩ := owns_form ho
            have hltE : ∀ k ∈ b2 :: Y2, k < wE.heap.size := fun k hk => by
              rcases List.mem_cons.1 hk with rfl | hk
              · exact Nat.lt_of_lt_of_le HLOD.out.lt hblE.size
              · exact HLOE.out.o.d.lt k hk
            have HWH := Lib.hid (snoc_deeds hltE ho rfl HVL.out HEL2.out HVE.out HBH.out)
            have hs := same_deeds _ _ _ _ (g ++ [[⟨⟨#[122]⟩, ⟨#[122]⟩, false⟩]]) _ wH (HDE.out.later HBH.out) HWH.out (by simp; omega) (fun x hx => by
              rcases List.mem_append.1 hx with hx | hx
              · have := HGL.out.2 x hx
                omega
              · obtain rfl := List.mem_singleton.1 hx
                exact (by decide : 1 ≤ 1000))
            rw [(sameD_eq _ _).2 rfl] at hs
            clear ho hg hltE
            go_wp2_with fail
            refine hs.mono ?_
            rintro e wI ⟨rfl, hBI⟩
            have HEND := Lib.hid (HLOE.out.o.below.trans ((HBH.out.trans (hBI.mono HBH.out.size)).mono (Nat.le_trans HLOE.out.o.size HLOE.out.o.below.size)))
            clear hs hBI
            go_wp2_with fail
            go_ret
            exact Ret.of rfl HEND.out
    · obtain rfl : k = n := by omega
      have hwait : Dr.wait.length < 10000 := by rw [HTL.out.good.wait]; exact (by decide : 0 < 10000)
      have HWAIT := Lib.hid hwait
      have HTE := Lib.hid (show TEnd Dr keep ds ds from ⟨Lr, ds, HTL.out.good.restart keep, .inl rfl, HTL.out.fr, HTL.out.many, HTL.out.first⟩)
      have hdsl := HTL.out.len
      have HEW := Lib.hid (show ds.length ≤ 8 ∧ ds.length ≤ 9 ∧ (∀ x ∈ ds, x.length ≤ 14) ∧ ∀ x ∈ ds, x.length ≤ 14 from ⟨by omega, by omega, HTL.out.el, HTL.out.el⟩)
      have HLO := Lib.hid HTL.out.o
      have HWN := Lib.hid HTL.out.want
      have HLS := Lib.hid HTL.out.last
      obtain ⟨aow, capw, rfl, -⟩ := HWN.out.form
      obtain ⟨aol, capl, rfl, -⟩ := HLS.out.form
      clear hwait
      go_wp2_with fail
      clear HTL
      have hwt : Dr.wait.length < 10000 := HWAIT.out
      refine (restart_any db _ Dr keep _ HLO.out.o.d hwt HK.out).mono ?_
      rintro e w7 ⟨rfl, hD7, hF7⟩
      obtain ⟨⟨fr, mn, fs, nx⟩, g, hG, hor, e1, e2, e3⟩ := HTE.out
      simp only at e1 e2 e3
      subst e1 e2 e3
      have hR : (Dr.restart keep).Ready := (restart_now Dr keep).2.2.2
      have HO7 := Lib.hid (HLO.out.o.moved hD7 hF7 (Fresh.refl _ _))
      have HW7 := Lib.hid (HWN.out.moved0 hF7)
      have HL7 := Lib.hid (HLS.out.moved0 hF7)
      clear hD7 hF7 HTE hwt HWAIT
      generalize Dr.restart keep = E at *
      have HG := Lib.hid hG
      have HR := Lib.hid hR
      have hfits := hG.of_.fits
      have hnx := hG.of_.next_le
      simp only at hfits hnx
      have hgl : g.length ≤ 9 ∧ ∀ x ∈ g, x.length ≤ 14 := by
        have := HEW.out
        rcases hor with rfl | rfl
        · exact ⟨by omega, this.2.2.1⟩
        · exact ⟨by omega, this.2.2.2⟩
      have HOR := Lib.hid hor
      have HGL := Lib.hid hgl
      obtain ⟨hg9, -⟩ := hgl
      have hscan : scan 5 0 (secs E 1 59) [] [] 0 = (g, nx) := HG.out.scan
      have HSCAN := Lib.hid hscan
      clear hG hR hor hscan
      go_wp2_with fail
      have hop := open_any db _ E 1 59 5 w7 HO7.out.d (by omega) (by omega) (by omega) HR.out.1 HG.out.sz (by omega)
      rw [HSCAN.out] at hop
      refine hop.mono ?_
      clear hop
      rintro e w8 ⟨v8, rfl, ho8⟩
      obtain ⟨b2, vd8, rfl, -, hLO8, hd8, hbl8⟩ := LogOne.opened (L := ⟨1, 59, 5, nx⟩) (ds := g) HO7.out ho8
      obtain ⟨ao8, cap8, rfl, -⟩ := hd8.form
      have HLO8 := Lib.hid hLO8
      have HD8 := Lib.hid hd8
      have HW8 := Lib.hid (HW7.out.later hbl8)
      have HL8 := Lib.hid (HL7.out.later hbl8)
      clear ho8 hLO8 hd8 hbl8 HW7 HL7
      go_wp2_with fail
      refine (same_deeds _ _ _ _ g ds w8 HD8.out HW8.out (by omega) (fun x hx => by have := HGL.out.2 x hx; omega)).mono ?_
      rintro e w9 ⟨rfl, hB9⟩
      have HLO9 := Lib.hid (HLO8.out.later hB9)
      have HD9 := Lib.hid (HD8.out.later hB9)
      have HL9 := Lib.hid (HL8.out.later hB9)
      clear hB9
      cases hx : sameD g ds
      · have hx2 : sameD g ds = true := by
          rcases HOR.out with h | h
          · rw [(sameD_eq g ds).2 h] at hx
            cases hx
          · exact (sameD_eq _ _).2 h
        have hsame := same_deeds _ _ _ _ g ds w9 HD9.out HL9.out (by omega) (fun x hx => by have := HGL.out.2 x hx; omega)
        rw [hx2] at hsame
        clear hx hx2
        go_wp2_with fail
        refine hsame.mono ?_
        rintro e w10 ⟨rfl, hB10⟩
        have HLOA := Lib.hid (HLO9.out.later hB10)
        have HDA := Lib.hid (HD9.out.later hB10)
        clear hB10 hsame HLO9 HD9 HLO8 HD8 HL9 HL8 HW8
        have HBA := Lib.hid (heap_alloc_new w10 (.cells #[.string ⟨#[122]⟩, .string ⟨#[122]⟩, .bool false] 64))
        have HLOB := Lib.hid (HLOA.out.later ((Below.refl _ w10).alloc (Nat.le_refl _) (.cells #[.string ⟨#[122]⟩, .string ⟨#[122]⟩, .bool false] 64)))
        have HDB := Lib.hid (HDA.out.later ((Below.refl _ w10).alloc (Nat.le_refl _) (.cells #[.string ⟨#[122]⟩, .string ⟨#[122]⟩, .bool false] 64)))
        have hltA : ∀ k ∈ b2 :: Xr, k < w10.heap.size := fun k hk => by
          rcases List.mem_cons.1 hk with rfl | hk
          · exact HLOA.out.lt
          · exact HLOA.out.o.d.lt k hk
        have HLTA := Lib.hid hltA
        clear hltA HLOA HDA
        go_wp2_with fail
        have hrm := room_any b2 db ⟨1, 59, 5, nx⟩ _ HLOB.out.l (show 59 ≤ 1000 by decide) (show nx ≤ 1000 by omega)
        simp only at hrm
        refine hrm.mono ?_
        clear hrm
        rintro e wC ⟨rfl, nq2, rfl⟩
        have HLOC := Lib.hid (HLOB.out.later (below_drewN (Below.refl _ _) nq2))
        have HDC := Lib.hid (HDB.out.later (below_drewN (Below.refl _ _) nq2))
        have HBC := Lib.hid (show ((w10.alloc (.cells #[.string ⟨#[122]⟩, .string ⟨#[122]⟩, .bool false] 64)).drewN nq2).heap[w10.heap.size]? = _ from HBA.out)
        generalize (w10.alloc (.cells #[.string ⟨#[122]⟩, .string ⟨#[122]⟩, .bool false] 64)).drewN nq2 = wC at *
        clear HLOB HDB HBA
        by_cases hroom : (59 : Int) - (nx : Int) < 2
        · go_wp2_with fail
          go_ret
          exact Ret.of rfl HLOC.out.o.below
        have hroom' : (2 : Int) ≤ (59 : Int) - (nx : Int) := by omega
        have HV := Lib.hid (show ChgP (fun k => k ∉ b2 :: Xr) wC (.slice (some ⟨w10.heap.size, 0, none⟩) 1 1) [⟨⟨#[122]⟩, ⟨#[122]⟩, false⟩] from
          ⟨_, _, rfl, by unfold maxLen; decide, fun i c hc => by
            match i, hc with
            | 0, hc =>
              cases hc
              exact ⟨_, _, rfl, fun hm => by have := HLTA.out _ hm; omega, by rw [cell_of HBC.out]; rfl, by rw [cell_of HBC.out]; rfl, by rw [cell_of HBC.out]; rfl⟩⟩)
        go_wp2_with fail
        refine (app_ok HLOC.out HG.out HR.out [⟨⟨#[122]⟩, ⟨#[122]⟩, false⟩] rfl rfl rfl (by simp) (by show nx + 1 + 1 ≤ 59; omega) zz_ok _ HV.out).mono ?_
        rintro e wD ⟨rfl, Y2, E2, hR2, hG2, hLOD, hfr2, hFD⟩
        have HDD := Lib.hid (HDC.out.moved hFD hfr2)
        have HVD := Lib.hid (HV.out.moved hFD hfr2)
        have HGD := Lib.hid hG2
        have HRD := Lib.hid hR2
        have HLOD := Lib.hid hLOD
        clear hR2 hG2 hLOD hfr2 hFD HDC HV HLOC HLTA HBC
        have hfits2 : 1 + 59 ≤ E2.now.length := HGD.out.of_.fits
        go_wp2_with fail
        have hop := open_any db _ E2 1 59 5 wD HLOD.out.o.d (by omega) (by omega) (by omega) HRD.out.1 HGD.out.sz (by omega)
        rw [show scan 5 0 (secs E2 1 59) [] [] 0 = (g ++ [[⟨⟨#[122]⟩, ⟨#[122]⟩, false⟩]], nx + 1 + 1) from HGD.out.scan] at hop
        refine hop.mono ?_
        clear hop
        rintro e wE ⟨vE, rfl, hoE⟩
        obtain ⟨b3, vdE, rfl, -, hLOE, hdE, hblE⟩ := LogOne.opened (L := ⟨1, 59, 5, nx + 1 + 1⟩) HLOD.out.o hoE
        obtain ⟨aoE, capE, rfl, -⟩ := hdE.form
        rw [show (g ++ [[(⟨⟨#[122]⟩, ⟨#[122]⟩, false⟩ : Chg)]]).length = g.length + 1 by simp] at hdE ⊢
        have HDE := Lib.hid hdE
        have HLOE := Lib.hid hLOE
        have HGE := Lib.hid (HDD.out.later hblE)
        have HVE := Lib.hid (HVD.out.later hblE)
        clear hoE hdE hLOE HDD HVD
        obtain ⟨aoR, capR, vs, he, -, hvl, hsrc, hone, hel⟩ := HGE.out.row
        cases he
        have HVL := Lib.hid hvl
        have HSRC := Lib.hid hsrc
        have HONE := Lib.hid hone
        have HEL2 := Lib.hid hel
        clear hvl hsrc hone hel
        go_wp2_with (at_builtin; refine wpList_append_want (by kernel_rfl) (.const (.slice none 0 0)) (.tmp 131) 78 rfl wE.heap.size 36 i36 _ 1 24 Try.underlying78 gi gz0 gz1 gz2 rfl (by decide) (.slice none 0 0) 0 [] rfl (World.ownsRow_nil _ _ _ _) ao8 g.length cap8 vs rfl ?_ ?_ HONE.out g.length (Nat.zero_add _) (by unfold maxLen; omega) (by omega) ?_ ?_)
        · rw [Nat.mul_one]
          exact HVL.out
        · exact HSRC.out
        · exact Nat.le_refl _
        intro vF wF ho hg _
        have hBF : Below wE.heap.size wE wF := (Below.refl _ wE).grown hg (Nat.le_refl _) (fun k hk => by cases hk)
        have HOF := Lib.hid (show wF.ownsRow wE.heap.size 36 1 vF g.length vs from ho)
        have HBF := Lib.hid hBF
        clear ho hg hBF
        go_wp2_with (at_builtin; refine wpList_append_want (by kernel_rfl) (.tmp 132) (.tmp 134) 78 rfl wE.heap.size 36 i36 _ 1 24 Try.underlying78 gi gz0 gz1 gz2 rfl (by decide) vF g.length vs rfl (World.ownsRow.alloc (w := wF) HOF.out _) (some ⟨wF.heap.size, 0, none⟩) 1 1 [.slice (some ⟨w10.heap.size, 0, none⟩) 1 1] rfl rfl ?_ (by simp [Value.oneCell']) (g.length + 1) rfl (by unfold maxLen; omega) (by omega) ?_ ?_)
        · exact fun _ => ⟨_, rfl, fun j u hu => by
            rw [addr_add]
            exact (cell_of (heap_alloc_new wF _) j).trans (by simpa using hu)⟩
        · exact Nat.le_trans HBF.out.size (by simp)
        intro vH wH ho hg _
        have HBH := Lib.hid ((HBF.out.alloc HBF.out.size _).grown hg (Nat.le_trans HBF.out.size (by simp)) (fun k hk => (World.ownsRow.lt HOF.out k hk).1))
        obtain ⟨aoH, capH, rfl⟩ := owns_form ho
        have hltE : ∀ k ∈ b2 :: Y2, k < wE.heap.size := fun k hk => by
          rcases List.mem_cons.1 hk with rfl | hk
          · exact Nat.lt_of_lt_of_le HLOD.out.lt hblE.size
          · exact HLOE.out.o.d.lt k hk
        have HWH := Lib.hid (snoc_deeds hltE ho rfl HVL.out HEL2.out HVE.out HBH.out)
        have hs := same_deeds _ _ _ _ (g ++ [[⟨⟨#[122]⟩, ⟨#[122]⟩, false⟩]]) _ wH (HDE.out.later HBH.out) HWH.out (by simp; omega) (fun x hx => by
          rcases List.mem_append.1 hx with hx | hx
          · have := HGL.out.2 x hx
            omega
          · obtain rfl := List.mem_singleton.1 hx
            exact (by decide : 1 ≤ 1000))
        rw [(sameD_eq _ _).2 rfl] at hs
        clear ho hg hltE
        go_wp2_with fail
        refine hs.mono ?_
        rintro e wI ⟨rfl, hBI⟩
        have HEND := Lib.hid (HLOE.out.o.below.trans ((HBH.out.trans (hBI.mono HBH.out.size)).mono (Nat.le_trans HLOE.out.o.size HLOE.out.o.below.size)))
        clear hs hBI
        go_wp2_with fail
        go_ret
        exact Ret.of rfl HEND.out
      · clear hx HLO8 HD8 HL9 HL8 HW8
        have HLOA := Lib.hid HLO9.out
        have HDA := Lib.hid HD9.out
        clear HLO9 HD9
        have HBA := Lib.hid (heap_alloc_new w9 (.cells #[.string ⟨#[122]⟩, .string ⟨#[122]⟩, .bool false] 64))
        have HLOB := Lib.hid (HLOA.out.later ((Below.refl _ w9).alloc (Nat.le_refl _) (.cells #[.string ⟨#[122]⟩, .string ⟨#[122]⟩, .bool false] 64)))
        have HDB := Lib.hid (HDA.out.later ((Below.refl _ w9).alloc (Nat.le_refl _) (.cells #[.string ⟨#[122]⟩, .string ⟨#[122]⟩, .bool false] 64)))
        have hltA : ∀ k ∈ b2 :: Xr, k < w9.heap.size := fun k hk => by
          rcases List.mem_cons.1 hk with rfl | hk
          · exact HLOA.out.lt
          · exact HLOA.out.o.d.lt k hk
        have HLTA := Lib.hid hltA
        clear hltA HLOA HDA
        go_wp2_with fail
        have hrm := room_any b2 db ⟨1, 59, 5, nx⟩ _ HLOB.out.l (show 59 ≤ 1000 by decide) (show nx ≤ 1000 by omega)
        simp only at hrm
        refine hrm.mono ?_
        clear hrm
        rintro e wC ⟨rfl, nq2, rfl⟩
        have HLOC := Lib.hid (HLOB.out.later (below_drewN (Below.refl _ _) nq2))
        have HDC := Lib.hid (HDB.out.later (below_drewN (Below.refl _ _) nq2))
        have HBC := Lib.hid (show ((w9.alloc (.cells #[.string ⟨#[122]⟩, .string ⟨#[122]⟩, .bool false] 64)).drewN nq2).heap[w9.heap.size]? = _ from HBA.out)
        generalize (w9.alloc (.cells #[.string ⟨#[122]⟩, .string ⟨#[122]⟩, .bool false] 64)).drewN nq2 = wC at *
        clear HLOB HDB HBA
        by_cases hroom : (59 : Int) - (nx : Int) < 2
        · go_wp2_with fail
          go_ret
          exact Ret.of rfl HLOC.out.o.below
        have hroom' : (2 : Int) ≤ (59 : Int) - (nx : Int) := by omega
        have HV := Lib.hid (show ChgP (fun k => k ∉ b2 :: Xr) wC (.slice (some ⟨w9.heap.size, 0, none⟩) 1 1) [⟨⟨#[122]⟩, ⟨#[122]⟩, false⟩] from
          ⟨_, _, rfl, by unfold maxLen; decide, fun i c hc => by
            match i, hc with
            | 0, hc =>
              cases hc
              exact ⟨_, _, rfl, fun hm => by have := HLTA.out _ hm; omega, by rw [cell_of HBC.out]; rfl, by rw [cell_of HBC.out]; rfl, by rw [cell_of HBC.out]; rfl⟩⟩)
        go_wp2_with fail
        refine (app_ok HLOC.out HG.out HR.out [⟨⟨#[122]⟩, ⟨#[122]⟩, false⟩] rfl rfl rfl (by simp) (by show nx + 1 + 1 ≤ 59; omega) zz_ok _ HV.out).mono ?_
        rintro e wD ⟨rfl, Y2, E2, hR2, hG2, hLOD, hfr2, hFD⟩
        have HDD := Lib.hid (HDC.out.moved hFD hfr2)
        have HVD := Lib.hid (HV.out.moved hFD hfr2)
        have HGD := Lib.hid hG2
        have HRD := Lib.hid hR2
        have HLOD := Lib.hid hLOD
        clear hR2 hG2 hLOD hfr2 hFD HDC HV HLOC HLTA HBC
        have hfits2 : 1 + 59 ≤ E2.now.length := HGD.out.of_.fits
        go_wp2_with fail
        have hop := open_any db _ E2 1 59 5 wD HLOD.out.o.d (by omega) (by omega) (by omega) HRD.out.1 HGD.out.sz (by omega)
        rw [show scan 5 0 (secs E2 1 59) [] [] 0 = (g ++ [[⟨⟨#[122]⟩, ⟨#[122]⟩, false⟩]], nx + 1 + 1) from HGD.out.scan] at hop
        refine hop.mono ?_
        clear hop
        rintro e wE ⟨vE, rfl, hoE⟩
        obtain ⟨b3, vdE, rfl, -, hLOE, hdE, hblE⟩ := LogOne.opened (L := ⟨1, 59, 5, nx + 1 + 1⟩) HLOD.out.o hoE
        obtain ⟨aoE, capE, rfl, -⟩ := hdE.form
        rw [show (g ++ [[(⟨⟨#[122]⟩, ⟨#[122]⟩, false⟩ : Chg)]]).length = g.length + 1 by simp] at hdE ⊢
        have HDE := Lib.hid hdE
        have HLOE := Lib.hid hLOE
        have HGE := Lib.hid (HDD.out.later hblE)
        have HVE := Lib.hid (HVD.out.later hblE)
        clear hoE hdE hLOE HDD HVD
        obtain ⟨aoR, capR, vs, he, -, hvl, hsrc, hone, hel⟩ := HGE.out.row
        cases he
        have HVL := Lib.hid hvl
        have HSRC := Lib.hid hsrc
        have HONE := Lib.hid hone
        have HEL2 := Lib.hid hel
        clear hvl hsrc hone hel
        go_wp2_with (at_builtin; refine wpList_append_want (by kernel_rfl) (.const (.slice none 0 0)) (.tmp 131) 78 rfl wE.heap.size 36 i36 _ 1 24 Try.underlying78 gi gz0 gz1 gz2 rfl (by decide) (.slice none 0 0) 0 [] rfl (World.ownsRow_nil _ _ _ _) ao8 g.length cap8 vs rfl ?_ ?_ HONE.out g.length (Nat.zero_add _) (by unfold maxLen; omega) (by omega) ?_ ?_)
        · rw [Nat.mul_one]
          exact HVL.out
        · exact HSRC.out
        · exact Nat.le_refl _
        intro vF wF ho hg _
        have hBF : Below wE.heap.size wE wF := (Below.refl _ wE).grown hg (Nat.le_refl _) (fun k hk => by cases hk)
        have HOF := Lib.hid (show wF.ownsRow wE.heap.size 36 1 vF g.length vs from ho)
        have HBF := Lib.hid hBF
        clear ho hg hBF
        go_wp2_with (at_builtin; refine wpList_append_want (by kernel_rfl) (.tmp 132) (.tmp 134) 78 rfl wE.heap.size 36 i36 _ 1 24 Try.underlying78 gi gz0 gz1 gz2 rfl (by decide) vF g.length vs rfl (World.ownsRow.alloc (w := wF) HOF.out _) (some ⟨wF.heap.size, 0, none⟩) 1 1 [.slice (some ⟨w9.heap.size, 0, none⟩) 1 1] rfl rfl ?_ (by simp [Value.oneCell']) (g.length + 1) rfl (by unfold maxLen; omega) (by omega) ?_ ?_)
        · exact fun _ => ⟨_, rfl, fun j u hu => by
            rw [addr_add]
            exact (cell_of (heap_alloc_new wF _) j).trans (by simpa using hu)⟩
        · exact Nat.le_trans HBF.out.size (by simp)
        intro vH wH ho hg _
        have HBH := Lib.hid ((HBF.out.alloc HBF.out.size _).grown hg (Nat.le_trans HBF.out.size (by simp)) (fun k hk => (World.ownsRow.lt HOF.out k hk).1))
        obtain ⟨aoH, capH, rfl⟩ := owns_form ho
        have hltE : ∀ k ∈ b2 :: Y2, k < wE.heap.size := fun k hk => by
          rcases List.mem_cons.1 hk with rfl | hk
          · exact Nat.lt_of_lt_of_le HLOD.out.lt hblE.size
          · exact HLOE.out.o.d.lt k hk
        have HWH := Lib.hid (snoc_deeds hltE ho rfl HVL.out HEL2.out HVE.out HBH.out)
        have hs := same_deeds _ _ _ _ (g ++ [[⟨⟨#[122]⟩, ⟨#[122]⟩, false⟩]]) _ wH (HDE.out.later HBH.out) HWH.out (by simp; omega) (fun x hx => by
          rcases List.mem_append.1 hx with hx | hx
          · have := HGL.out.2 x hx
            omega
          · obtain rfl := List.mem_singleton.1 hx
            exact (by decide : 1 ≤ 1000))
        rw [(sameD_eq _ _).2 rfl] at hs
        clear ho hg hltE
        go_wp2_with fail
        refine hs.mono ?_
        rintro e wI ⟨rfl, hBI⟩
        have HEND := Lib.hid (HLOE.out.o.below.trans ((HBH.out.trans (hBI.mono HBH.out.size)).mono (Nat.le_trans HLOE.out.o.size HLOE.out.o.below.size)))
        clear hs hBI
        go_wp2_with fail
        go_ret
        exact Ret.of rfl HEND.out



end Go.Proofs.Ytkapmpngglibjaa
