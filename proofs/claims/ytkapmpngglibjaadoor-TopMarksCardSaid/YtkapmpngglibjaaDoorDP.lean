/- sign.Fold, plain.Fold and plain.Alike, walked. Conditions: each contract's own premises. -/
import Derived.Test.YtkapmpngglibjaaDoorDO
namespace Go.Proofs.YtkapmpngglibjaaDoor
open Go Go.RowKit Go.Lib

def foldR (r : Int) : Int := if 65 ≤ r ∧ r ≤ 90 then r + 32 else if r = 962 ∨ r = 931 then 963 else r

set_option maxHeartbeats 2000000 in
theorem fold_any (r : Int) (w : World) : Calls Tryd.prog 19 #[.int .i32 r] w (Ret (.int .i32 (foldR r)) (fun w' => Below w.heap.size w w')) := by
  by_cases h1 : 65 ≤ r
  · by_cases h2 : r ≤ 90
    · have HF := Lib.hid (show foldR r = r + 32 from if_pos ⟨h1, h2⟩)
      have e : r + 97 - 65 = r + 32 := by omega
      go_enter Tryd.func19, Tryd.ntmps19
      go_wp2_with fail
      go_ret
      exact Ret.of (by rw [HF.out]; first | rfl | (congr 1; simp only [wrap32]; omega)) (Below.refl _ _)
    · have h2' : (r ≤ 90) = False := eq_false h2
      by_cases h3 : r = 962
      · subst h3
        go_enter Tryd.func19, Tryd.ntmps19
        go_wp2_with fail
        go_ret
        exact Ret.of rfl (Below.refl _ _)
      · by_cases h4 : r = 931
        · subst h4
          go_enter Tryd.func19, Tryd.ntmps19
          go_wp2_with fail
          go_ret
          exact Ret.of rfl (Below.refl _ _)
        · have HF := Lib.hid (show foldR r = r from by unfold foldR; rw [if_neg (by omega), if_neg (by omega)])
          have h3' : (r == 962) = false := beq_eq_false_iff_ne.2 h3
          have h4' : (r == 931) = false := beq_eq_false_iff_ne.2 h4
          clear h2 h3 h4
          go_enter Tryd.func19, Tryd.ntmps19
          go_wp2_with fail
          go_ret
          exact Ret.of (by rw [HF.out]; rfl) (Below.refl _ _)
  · have h1' : (65 ≤ r) = False := eq_false h1
    have HF := Lib.hid (show foldR r = r from by unfold foldR; rw [if_neg (by omega), if_neg (by omega)])
    have h3' : (r == 962) = false := beq_eq_false_iff_ne.2 (by omega)
    have h4' : (r == 931) = false := beq_eq_false_iff_ne.2 (by omega)
    clear h1
    go_enter Tryd.func19, Tryd.ntmps19
    go_wp2_with fail
    go_ret
    exact Ret.of (by rw [HF.out]; rfl) (Below.refl _ _)

def splitS (s : ByteArray) : ByteArray := runesBytes (ordR (allR s.data.toList))
def foldS (s : ByteArray) : ByteArray := runesBytes ((runesAt (splitS s) 0).map foldR)

theorem ordG_len : ∀ (l : List Int) (z : Nat) (ns : List Int), (ordG z ns l).length = z + ns.length + l.length
  | [], z, ns => by simp [ordG]
  | r :: t, z, ns => by
    rw [ordG]
    split
    · simp [ordG_len t]
      omega
    · split
      · rw [ordG_len t, List.length_cons]
        omega
      · rw [ordG_len t, List.length_append, List.length_cons, List.length_cons]
        simp
        omega
theorem runesF_len : ∀ (n : Nat) (l : List UInt8), l.length ≤ n → (runesF n l).length ≤ l.length
  | 0, l, h => by simp [runesF]
  | n + 1, l, h => by
    unfold runesF
    split
    · simp
    · have hw := decodeL_width l
      rename_i hne
      have : 0 < l.length := List.length_pos_iff.2 hne
      have := runesF_len n (l.drop (decodeL l).2) (by rw [List.length_drop]; omega)
      rw [List.length_drop] at this
      rw [List.length_cons]
      omega
theorem splitS_runes (s : ByteArray) (hs : s.size ≤ 64) : (runesAt (splitS s) 0).length ≤ 512 := by
  have h1 := runesBytes_size_le (ordR (allR s.data.toList))
  have h2 := ordG_len (allR s.data.toList) 0 []
  have h3 := (allR_bounds s.data.toList.length s.data.toList (Nat.le_refl _)).2
  have h4 : s.data.toList.length = s.size := Array.length_toList
  have h5 := runesF_len (splitS s).data.toList.length (splitS s).data.toList (Nat.le_refl _)
  have h6 : (splitS s).data.toList.length = (splitS s).size := Array.length_toList
  have h7 : (runesAt (splitS s) 0).length ≤ (splitS s).data.toList.length := h5
  have h8 : (splitS s).size ≤ 4 * (ordG 0 [] (allR s.data.toList)).length := h1
  simp at h2
  omega

structure SoFold (W w : World) (s : ByteArray) (pos n : Nat) (v : Value) (ls : List Int) : Prop where
  row : w.ownsRow (W.heap.size + 1) 21 1 v n (ls.map rV)
  len : ls.length = n
  all : ls ++ (runesAt s pos).map foldR = (runesAt s 0).map foldR
  bel : Below W.heap.size W w

set_option maxHeartbeats 8000000 in
set_option maxRecDepth 100000 in
theorem plainFold_any (B : Nat) (s0 : ByteArray) (w0 : World) (hM : MarksAt B w0) (hW : WholeAt B w0) (hB : B ≤ w0.heap.size) (hs : s0.size ≤ 64) :
    Calls Tryd.prog 13 #[.string s0] w0 (Ret (.string (foldS s0)) (Below w0.heap.size w0)) := by
  have HC := Lib.hid (plainSplit_any B s0 w0 hM hW hB hs)
  have HLN := Lib.hid (splitS_runes s0 hs)
  clear hM hW hB hs
  obtain ⟨i0, hi, hz0, hz1, hz2⟩ := info_parts info21
  go_enter Tryd.func13, Tryd.ntmps13
  go_wp2_with fail
  refine HC.out.mono ?_
  clear HC
  rintro ev w ⟨rfl, hb0⟩
  have HB0 := Lib.hid hb0
  clear hb0
  obtain ⟨s, hs⟩ : ∃ s, s = runesBytes (ordR (allR s0.data.toList)) := ⟨_, rfl⟩
  rw [← hs]
  have HS := Lib.hid (show s = splitS s0 from hs)
  clear hs
  obtain ⟨H, hH⟩ : ∃ H, w.heap.size = H := ⟨_, rfl⟩
  have HH := Lib.hid (fun (_ : Unit) => hH)
  go_wp2_with fail
  go_loopw [3] (fun lv wr => ∃ (pos n : Nat) (ls : List Int) (ao : Option Addr) (cap : Nat), lv = .slice ao n cap ∧ wr.heap[H]? = some (.stringIter s pos) ∧ Hid (SoFold w wr s pos n lv ls)) (fun _ wr => s.size - wr.iterPos H)
  case atStart =>
    refine ⟨0, 0, [], none, 0, rfl, ?_, Lib.hid ⟨World.ownsRow_nil _ _ _ _, rfl, rfl, (Below.refl _ w).alloc (by omega) _⟩⟩
    rw [← hH]
    exact World.iter_heap w s 0
  case round =>
    obtain ⟨pos, n, ls, ao, cap, rfl, hit, HI⟩ := hrel
    by_cases hp : pos < s.size
    · have hnx : ∀ ty, (Instr.next (.pointer (some ⟨H, 0, none⟩)) true ty).run Tryd.prog wr = _ := fun ty => run_next_any_at wr H s pos ty hit hp
      obtain ⟨p2, hp2⟩ : ∃ p2, pos + (Utf8.decode s pos).2 = p2 := ⟨_, rfl⟩
      obtain ⟨c, hc⟩ : ∃ c : Int, ((Utf8.decode s pos).1 : Int) = c := ⟨_, rfl⟩
      obtain ⟨wi, hwi⟩ : ∃ wi, wr.iterAt H s p2 = wi := ⟨_, rfl⟩
      simp only [hp2, hc, hwi] at hnx
      have hrow2 : wi.ownsRow (H + 1) 21 1 (.slice ao n cap) n (ls.map rV) := by
        rw [← hwi]
        have h1 := HI.out.row
        rw [HH.out ()] at h1
        refine owns_of_heap h1 fun k hk => iterAt_other _ _ _ _ _ ?_
        have h4 : H + 1 ≤ k := by
          rcases h1.2 with ⟨h2, -⟩ | ⟨g, cp, cur, h2, h3, -⟩
          · rw [h2] at hk; cases hk
          · rw [h2] at hk; cases hk; exact h3
        omega
      have hb2 : Below w.heap.size w wi := by rw [← hwi]; exact below_iterAt HI.out.bel (by rw [HH.out ()]; exact Nat.le_refl _) _ _
      have hit2 : wi.heap[H]? = some (.stringIter s p2) := by rw [← hwi]; exact iterAt_heap _ _ _ _ _ hit
      have hlen := HI.out.len
      have hall : (ls ++ [foldR c]) ++ (runesAt s p2).map foldR = (runesAt s 0).map foldR := by
        rw [← HI.out.all, runesAt_step hp, hp2, hc, List.map_cons, List.append_assoc]
        rfl
      have HX := Lib.hid (fun (_ : Unit) => And.intro hp2 (And.intro hit (And.intro hit2 (And.intro hrow2 (And.intro hb2 (And.intro hlen hall))))))
      have HC := Lib.hid (fold_any c wi)
      clear hp2 hc hwi hit hit2 hrow2 hb2 hlen hall HI
      go_wp2_with fail
      refine HC.out.mono ?_
      clear HC
      rintro ev w1 ⟨rfl, hbel⟩
      have HR := Lib.hid hbel
      clear hbel
      obtain ⟨c2, hc2⟩ : ∃ c2, c2 = foldR c := ⟨_, rfl⟩
      rw [← hc2]
      have HC2 := Lib.hid (fun (_ : Unit) => hc2)
      clear hc2
      go_wp2_with (at_builtin; refine stopHere ?_)
      intro _
      obtain ⟨w1b, hw1b⟩ : ∃ w1b, w1b = w1.alloc (.cells #[.int .i32 c2] 21) := ⟨_, rfl⟩
      obtain ⟨K, hK⟩ : ∃ K, w1b.heap.size = K := ⟨_, rfl⟩
      have hbel2 : Below wi.heap.size wi w1b := by rw [hw1b]; exact HR.out.alloc HR.out.size _
      have hbw : Below w.heap.size w w1b := (HX.out ()).2.2.2.2.1.trans (hbel2.mono (HX.out ()).2.2.2.2.1.size)
      have hbd : n + 1 ≤ 512 := by
        have h1 := (HX.out ()).2.2.2.2.2.1
        have h2 := congrArg List.length (HX.out ()).2.2.2.2.2.2
        have h3 := HLN.out
        rw [← HS.out] at h3
        simp only [List.length_append, List.length_map, List.length_cons, List.length_nil] at h2
        omega
      have hown : w1b.ownsRow (H + 1) 21 1 (.slice ao n cap) n (ls.map rV) := owns_of_heap (HX.out ()).2.2.2.1 fun k hk => by
        obtain ⟨cur, hcur⟩ := owns_lt (HX.out ()).2.2.2.1 hk
        exact hbel2.block k (lt_of_heap hcur)
      have hit1 : w1b.heap[H]? = some (.stringIter s p2) := (hbel2.block H (lt_of_heap (HX.out ()).2.2.1)).trans (HX.out ()).2.2.1
      have hH1 : H + 1 ≤ w1b.heap.size := by have := lt_of_heap hit1; omega
      rw [← hw1b]
      refine wpList_append_lies _ rfl (.tmp 12) (.tmp 15) 46 rfl (H + 1) 21 i0 _ 1 4 Tryd.underlying46 hi hz0 hz1 hz2 rfl (by decide) (.slice ao n cap) n (ls.map rV) rfl hown ⟨w1.heap.size, 0, none⟩ 1 1 [rV c2] rfl (by simp) ?_ ?_ (by decide) (by unfold maxLen; omega) (by omega) hH1 K hK ?_
      · intro j u hu
        rw [addr_add, hw1b]
        refine (cell_of (heap_alloc_new w1 _) j).trans ?_
        simpa [rV] using hu
      · intro u hu
        rw [List.mem_singleton.1 hu]
        rfl
      intro g2 cap2 w2 ho hgr hor hlt
      have hgb : ∀ b, (Value.slice ao n cap).ownBlock = some b → H + 1 ≤ b := fun b hb => by
        rcases hown.2 with ⟨h2, -⟩ | ⟨g', cp, cur, h2, h3, -⟩
        · rw [h2] at hb; cases hb
        · rw [h2] at hb; cases hb; exact h3
      have hit2 : w2.heap[H]? = some (.stringIter s p2) := (hgr.block H (by omega) (fun e => by have := hgb H e.symm; omega)).trans hit1
      have HE := Lib.hid (show SoFold w w2 s p2 (n + 1) (.slice (some ⟨g2, 0, none⟩) (n + 1) cap2) (ls ++ [c2]) from
        ⟨by rw [List.map_append, HH.out ()]; exact ho, by rw [List.length_append, (HX.out ()).2.2.2.2.2.1]; rfl, by rw [HC2.out ()]; exact (HX.out ()).2.2.2.2.2.2,
          hbw.grown hgr hbw.size (fun b hb => by have := hgb b hb; have := HH.out (); omega)⟩)
      have HIT := Lib.hid hit2
      clear hbw hbd hown hit1 hH1 ho hgr hor hlt hgb hit2 hK hw1b hbel2
      go_wp2_with fail
      refine ⟨⟨p2, _, _, _, _, rfl, HIT.out, HE⟩, ?_⟩
      have hX := HX.out ()
      have hw := runesAt_width s pos
      simp only [World.iterPos, HIT.out, hX.2.1]
      omega
    · have hnx : ∀ ty, (Instr.next (.pointer (some ⟨H, 0, none⟩)) true ty).run Tryd.prog wr = _ := fun ty => run_next_end_at wr H s pos ty hit hp
      have hls : runesBytes ls = foldS s0 := by
        have h1 := HI.out.all
        rw [runesAt_end hp, List.map_nil, List.append_nil] at h1
        rw [h1, HS.out]
        rfl
      have HLS := Lib.hid hls
      have hcv : ∀ ty, ty = 9 → (convert 46 ty (.slice ao n cap)).run Tryd.prog wr = .ok (.string (runesBytes ls)) wr := by
        rintro ty rfl
        rcases HI.out.row.2 with ⟨h1, h2⟩ | ⟨g, cp, cur, h1, h2, h3, h4, h5, h6, h7⟩
        · cases h1
          have : ls = [] := List.eq_nil_of_length_eq_zero HI.out.len
          subst this
          exact run_convert_runes_nil wr 46 9 21 _ _ Tryd.underlying46 Tryd.underlying21 Tryd.underlying9
        · cases h1
          have h8 := run_convert_runes (P := Tryd.prog) wr 46 9 21 ⟨g, 0, none⟩ n cap ls (by rw [HI.out.len]; exact Nat.le_refl _) Tryd.underlying46 Tryd.underlying21 Tryd.underlying9 (fun j hj => by
            rw [addr_add, cell_of h3]
            have h9 : (cur.toList.take (n * 1))[j]? = (ls.map rV)[j]? := by rw [h7]
            rw [List.getElem?_take_of_lt (by rw [Nat.mul_one, ← HI.out.len]; exact hj), List.getElem?_map, getD_at hj] at h9
            rw [← Array.getElem?_toList, h9]
            rfl)
          rw [h8, List.take_of_length_le (by rw [HI.out.len]; exact Nat.le_refl _)]
      have hcv := hcv 9 rfl
      have HBL := Lib.hid (HB0.out.trans (HI.out.bel.mono HB0.out.size))
      clear hit HI hls
      go_wp2_with fail
      go_ret
      exact Ret.of (by rw [← HLS.out]; rfl) HBL.out

set_option maxHeartbeats 2000000 in
theorem alike_any (B : Nat) (a b : ByteArray) (w : World) (hM : MarksAt B w) (hW : WholeAt B w) (hB : B ≤ w.heap.size) (ha : a.size ≤ 64) (hb : b.size ≤ 64) (he : foldS a = foldS b) :
    Calls Tryd.prog 8 #[.string a, .string b] w (Ret (.bool true) (Below w.heap.size w)) := by
  have C1 := Lib.hid (plainFold_any B a w hM hW hB ha)
  have C2 := Lib.hid (fun (w1 : World) (h : Below w.heap.size w w1) => plainFold_any B b w1 (hM.below (h.mono hB)) (hW.below (h.mono hB)) (Nat.le_trans hB h.size) hb)
  rw [← he] at C2
  clear hM hW hB ha hb he
  obtain ⟨f, hf⟩ : ∃ f, f = foldS a := ⟨_, rfl⟩
  rw [← hf] at C1 C2
  clear hf
  go_enter Tryd.func8, Tryd.ntmps8
  go_wp2_with fail
  refine C1.out.mono ?_
  rintro ev w1 ⟨rfl, hb1⟩
  have D2 := Lib.hid (C2.out w1 hb1)
  have HB := Lib.hid hb1
  clear hb1
  go_wp2_with fail
  refine D2.out.mono ?_
  rintro ev w2 ⟨rfl, hb2⟩
  have HB2 := Lib.hid (HB.out.trans (hb2.mono HB.out.size))
  clear hb2
  go_wp2_with fail
  go_ret
  exact Ret.of (by simp) HB2.out

end Go.Proofs.YtkapmpngglibjaaDoor
