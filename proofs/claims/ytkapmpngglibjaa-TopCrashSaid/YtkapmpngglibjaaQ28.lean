/- Several texts in one: what each begins with says what it shows. Conditions: each law's own premises. -/
import Derived.Test.YtkapmpngglibjaaQ27
import Derived.Test.YtkapmpngglibjaaQ22

/- A fresh disk, formatted. Conditions: the contract's own premises. -/
namespace Go.Proofs.Ytkapmpngglibjaa
open Go Go.RowKit Go.Shelf

theorem fourB_size (n : Nat) : (fourB n).size = 4 := rfl
theorem headB_size (h : HM) : (headB h).size = 17 := by
  unfold headB
  simp only [ByteArray.size_append, fourB_size]
  rfl

/-- A fresh store's head. -/
def head1 : HM := ⟨1, 0, 0, 1⟩
def freshL (n : Nat) : List ByteArray := (List.replicate n blankT).set 1 (padTo 140 (headB head1))

/-- Where a blank disk stands, all waiting writes blank. -/
structure BlankD (n : Nat) (D : DM) : Prop where
  up : D.Ready
  now : D.now = List.replicate n blankT

theorem BlankD.write {n : Nat} {D : DM} (h : BlankD n D) (i : Nat) (hi : i < n) : (D.write (i : Int) ⟨#[]⟩).1 = 0 ∧ BlankD n (D.write (i : Int) ⟨#[]⟩).2 ∧ (D.write (i : Int) ⟨#[]⟩).2.wait.length ≤ D.wait.length + 1 := by
  have hl : i < D.now.length := by rw [h.now, List.length_replicate]; exact hi
  obtain ⟨h1, h2⟩ := write_up h.up i ⟨#[]⟩ hl (Nat.zero_le _)
  refine ⟨h1, ⟨h2, ?_⟩, DM.wr_wait D i ⟨#[]⟩⟩
  rcases write_cases D i ⟨#[]⟩ hl (Nat.zero_le _) with ⟨-, -, q, -, -⟩ | ⟨q, -⟩
  · rw [q, h.now]
    exact List.set_replicate_self
  · rw [h1] at q
    cases q

theorem ready_flush {D : DM} (h : D.Ready) : D.flush.1 = 0 ∧ D.flush.2.Ready ∧ D.flush.2.now = D.now ∧ D.flush.2.kept = D.now ∧ D.flush.2.wait = [] := by
  obtain ⟨h1, h2⟩ := step_up h
  have e : D.flush = (0, { D.step.2 with kept := D.step.2.now, wait := [] }) := by
    unfold DM.flush
    rw [if_pos h1]
  obtain ⟨h3, -, -⟩ := D.step_now
  rw [e]
  exact ⟨rfl, h2, h3, h3, rfl⟩

theorem format_small (db : Nat) (X : List Nat) (D : DM) (w : World) (hD : DiskAt w 107 111 db X D) (hn : D.now.length < 104) : Calls Try.prog 55 #[.pointer (some ⟨db, 0, none⟩)] w (Ret (errV 9) fun w' => w = w') := by
  have HD := Lib.hid (sectors_any 107 111 db X D w hD)
  have n1 : (D.now.length : Int) < 104 := by omega
  have e9 : errV 9 = .iface 101 (.int .i64 9) := rfl
  go_enter Try.func55, Try.ntmps55
  go_wp2_with (go_at_call 16; refine HD.out.mono ?_; rintro e w' ⟨rfl, rfl⟩)
  go_ret
  exact Ret.of rfl rfl

set_option maxHeartbeats 4000000 in
set_option maxRecDepth 100000 in
theorem format_any (db n : Nat) (X : List Nat) (D : DM) (w : World) (hD : DiskAt w 107 111 db X D) (hB : BlankD n D) (hw : D.wait.length = 0) (h1 : 104 ≤ n) (h2 : n ≤ 130) :
    Calls Try.prog 55 #[.pointer (some ⟨db, 0, none⟩)] w (Ret (errV 0) fun w' => ∃ Y D', DiskAt w' 107 111 db Y D' ∧ Fresh w X Y ∧ Frame X w w' ∧ D'.Ready ∧ D'.wait = [] ∧ D'.now = freshL n ∧ D'.kept = freshL n) := by
  have HH := Lib.hid (fun (_ : Unit) => And.intro h1 h2)
  have HX : ∀ (wr : World) (X' : List Nat) (D' : DM), DiskAt wr 107 111 db X' D' → BlankD n D' → Calls Try.prog 16 #[.pointer (some ⟨db, 0, none⟩)] wr (Ret (.int .i64 (n : Int)) fun w' => wr = w') := fun wr X' D' a b => by
    have h := sectors_any 107 111 db X' D' wr a
    rwa [b.now, List.length_replicate] at h
  have HW : ∀ (wr : World) (X' : List Nat) (D' : DM) (i : Nat), DiskAt wr 107 111 db X' D' → BlankD n D' → i < n → D'.wait.length < 10000 → Calls Try.prog 17 #[.pointer (some ⟨db, 0, none⟩), .int .i64 (i : Int), .string ⟨#[]⟩] wr
      (Ret .nilIface fun w' => ∃ Y D'', DiskAt w' 107 111 db Y D'' ∧ BlankD n D'' ∧ D''.wait.length ≤ D'.wait.length + 1 ∧ Frame X' wr w' ∧ Fresh wr X' Y) := fun wr X' D' i a b c d => by
    obtain ⟨g1, g2, g3⟩ := b.write i c
    have h := write_any db X' D' (i : Int) ⟨#[]⟩ wr a d
    rw [g1] at h
    refine h.mono ?_
    rintro e w' ⟨rfl, Y, q1, q2, q3⟩
    exact Ret.of rfl ⟨Y, _, q1, g2, g3, q2, q3⟩
  have HXX := Lib.hid HX
  have HWW := Lib.hid HW
  have HD := Lib.hid hD
  have HB := Lib.hid hB
  have HW0 := Lib.hid (fun (_ : Unit) => hw)
  have b1 : (104 : Int) ≤ (n : Int) := by omega
  clear HX HW hD hB hw h1 h2
  have hsx := HXX.out w X D HD.out HB.out
  have hw0 := HWW.out w X D 0 HD.out HB.out (by have := HH.out (); omega) (by rw [HW0.out ()]; decide)
  go_enter Try.func55, Try.ntmps55
  go_wp2_with (first | (go_at_call 16; refine hsx.mono ?_; clear hsx; rintro e w' ⟨rfl, rfl⟩))
  refine hw0.mono ?_
  clear hw0
  rintro _ w1 ⟨rfl, Y1, D1, hD1, hB1, hw1, hF1, hY1⟩
  have H1 := Lib.hid (show DiskAt w1 107 111 db Y1 D1 ∧ BlankD n D1 ∧ D1.wait.length ≤ 91 ∧ Frame X w w1 ∧ Fresh w X Y1 from ⟨hD1, hB1, by have := HW0.out (); omega, hF1, hY1⟩)
  clear hD1 hB1 hw1 hF1 hY1
  go_wp2_with fail
  go_loopw [3, 4] (fun e i wr => ∃ (j : Nat) (X' : List Nat) (D' : DM), e = .nilIface ∧ 90 ≤ j ∧ j ≤ n ∧ i = .int .i64 (j : Int) ∧ Hid (DiskAt wr 107 111 db X' D' ∧ BlankD n D' ∧ D'.wait.length ≤ j + 1 ∧ Frame X w wr ∧ Fresh w X X')) (fun _ i _ => n - (intOf i).toNat)
  case atStart => exact ⟨90, Y1, D1, rfl, by omega, by have := HH.out (); omega, rfl, H1⟩
  case round =>
    clear H1
    obtain ⟨j, X', D', rfl, hj90, hj, rfl, HO⟩ := hrel
    have j0 : (0 : Int) ≤ (j : Int) := by omega
    have hsx := HXX.out wr X' D' HO.out.1 HO.out.2.1
    by_cases hlt : j < n
    · have j1 : ((j : Int) < (n : Int)) = True := eq_true (by omega)
      have hw0 := HWW.out wr X' D' j HO.out.1 HO.out.2.1 hlt (by have := HO.out.2.2.1; have := HH.out (); omega)
      have e1 : IntKind.i64.wrap ((j : Int) + 1) = (j : Int) + 1 := IntWalk.i64_in _ (by have := HH.out (); omega)
      go_wp2_with (first | (go_at_call 16; refine hsx.mono ?_; clear hsx; rintro e w' ⟨rfl, rfl⟩))
      refine hw0.mono ?_
      clear hw0
      rintro _ w3 ⟨rfl, Y3, D3, hD3, hB3, hw3, hF3, hY3⟩
      have HO3 := Lib.hid (show DiskAt w3 107 111 db Y3 D3 ∧ BlankD n D3 ∧ D3.wait.length ≤ j + 1 + 1 ∧ Frame X w w3 ∧ Fresh w X Y3 from
        ⟨hD3, hB3, by have := HO.out.2.2.1; omega, HO.out.2.2.2.1.then' hF3 (fun b hb => HO.out.2.2.2.2 b hb), HO.out.2.2.2.2.trans hY3 HO.out.2.2.2.1.size⟩)
      clear hD3 hB3 hw3 hF3 hY3
      go_wp2_with fail
      exact ⟨⟨j + 1, Y3, D3, rfl, by omega, by omega, by go_num, HO3⟩, by simp [intOf]; omega⟩
    · obtain rfl : j = n := by omega
      have j1 : ((j : Int) < (j : Int)) = False := eq_false (by omega)
      clear hlt
      go_wp2_with (first | (go_at_call 16; refine hsx.mono ?_; clear hsx; rintro e w' ⟨rfl, rfl⟩))
      obtain ⟨hD', hB', hw', hF', hY'⟩ := HO.out
      obtain ⟨f1, f2, f3, f4, f5⟩ := ready_flush hB'.up
      have hfl := flush_any db X' D' wr hD'
      rw [f1] at hfl
      refine hfl.mono ?_
      clear hfl
      rintro _ w4 ⟨rfl, hD4, hF4⟩
      have H4 := Lib.hid (show DiskAt w4 107 111 db X' D'.flush.2 ∧ D'.flush.2.Ready ∧ D'.flush.2.now = List.replicate j blankT ∧ D'.flush.2.wait = [] ∧ Frame X w w4 from ⟨hD4, f2, f3.trans hB'.now, f5, hF'.then' hF4 (fun b hb => hY' b hb)⟩)
      have HY4 := Lib.hid (show Fresh w X X' from hY')
      generalize D'.flush.2 = D4 at *
      clear hD4 hF4 f1 f2 f3 f4 f5 hD' hB' hw' hF' hY'
      have e0 : errV 0 = .nilIface := rfl
      have htx := htext_any head1 w4 ⟨by decide, by decide, by decide, by decide⟩
      go_wp2_with fail
      refine htx.mono ?_
      clear htx
      rintro _ w5 ⟨rfl, hB5⟩
      have H5 := Lib.hid (show DiskAt w5 107 111 db X' D4 ∧ Frame X w w5 from ⟨H4.out.1.frame (Frame.of_below [] hB5) (by simp), H4.out.2.2.2.2.trans (Frame.of_below _ hB5)⟩)
      clear hB5
      have hlen : 1 < D4.now.length := by rw [H4.out.2.2.1, List.length_replicate]; omega
      have hsz : (headB head1).size ≤ 140 := by rw [headB_size]; decide
      obtain ⟨g1, g2⟩ := write_up H4.out.2.1 1 (headB head1) hlen hsz
      have g3 : (D4.write (1 : Nat) (headB head1)).2.now = freshL j := by
        rcases write_cases D4 1 (headB head1) hlen hsz with ⟨-, -, q, -, -⟩ | ⟨q, -⟩
        · rw [q, H4.out.2.2.1]
          rfl
        · rw [g1] at q
          cases q
      have hwr := write_any db X' D4 ((1 : Nat) : Int) (headB head1) w5 H5.out.1 (by rw [H4.out.2.2.2.1]; decide)
      rw [g1, e0] at hwr
      have HG := Lib.hid (And.intro g2 g3)
      generalize (D4.write ((1 : Nat) : Int) (headB head1)).2 = D6 at *
      clear g1 g2 g3 hlen hsz
      go_wp2_with fail
      refine hwr.mono ?_
      clear hwr
      rintro _ w6 ⟨rfl, Y6, hD6, hF6, hY6⟩
      have H6 := Lib.hid (show DiskAt w6 107 111 db Y6 D6 ∧ Fresh w X Y6 ∧ Frame X w w6 from ⟨hD6, HY4.out.trans hY6 H5.out.2.size, H5.out.2.then' hF6 (fun b hb => HY4.out b hb)⟩)
      clear hD6 hF6 hY6
      obtain ⟨f1, f2, f3, f4, f5⟩ := ready_flush HG.out.1
      have hfl := flush_any db Y6 D6 w6 H6.out.1
      rw [f1, e0] at hfl
      have HF := Lib.hid (And.intro f2 (And.intro (f3.trans HG.out.2) (And.intro (f4.trans HG.out.2) f5)))
      generalize D6.flush.2 = D7 at *
      clear f1 f2 f3 f4 f5
      go_wp2_with fail
      refine hfl.mono ?_
      clear hfl
      rintro _ w7 ⟨rfl, hD7, hF7⟩
      have H7 := Lib.hid (show DiskAt w7 107 111 db Y6 D7 ∧ Fresh w X Y6 ∧ Frame X w w7 from ⟨hD7, H6.out.2.1, H6.out.2.2.then' hF7 (fun b hb => H6.out.2.1 b hb)⟩)
      clear hD7 hF7
      go_wp2_with fail
      go_ret
      exact Ret.of rfl ⟨Y6, D7, H7.out.1, H7.out.2.1, H7.out.2.2, HF.out.1, HF.out.2.2.2, HF.out.2.1, HF.out.2.2.1⟩

end Go.Proofs.Ytkapmpngglibjaa

/- A store's sectors, plain: heads, halves, what opening finds. Conditions: each law's own premises. -/
namespace Go.Proofs.Ytkapmpngglibjaa
open Go Go.RowKit

/-! ### heads -/

/-- The head that counts, of the first j sectors. -/
def pickN (S : List ByteArray) : Nat → HM
  | 0 => ⟨0, 0, 0, 0⟩
  | j + 1 => if (pickN S j).epoch < (headOfM (S.getD j ⟨#[]⟩)).epoch then headOfM (S.getD j ⟨#[]⟩) else pickN S j

/-- So many sectors in one text. -/
def catN (S : List ByteArray) (a : Nat) : Nat → ByteArray
  | 0 => ⟨#[]⟩
  | k + 1 => catN S a k ++ S.getD (a + k) ⟨#[]⟩

theorem getD_get {S : List ByteArray} {j : Nat} (h : j < S.length) : S.getD j ⟨#[]⟩ = S[j] := by
  rw [List.getD_eq_getElem?_getD, List.getElem?_eq_getElem h]
  rfl
theorem getD_of {S : List ByteArray} {j : Nat} {s : ByteArray} (h : S[j]? = some s) : S.getD j ⟨#[]⟩ = s := by
  rw [List.getD_eq_getElem?_getD, h]
  rfl
theorem getD_congr {S S' : List ByteArray} {j : Nat} (h : S'[j]? = S[j]?) : S'.getD j ⟨#[]⟩ = S.getD j ⟨#[]⟩ := by
  rw [List.getD_eq_getElem?_getD, List.getD_eq_getElem?_getD, h]

theorem catN_size (S : List ByteArray) (a : Nat) (hz : AllSz S) : ∀ k, a + k ≤ S.length → (catN S a k).size = 140 * k
  | 0, _ => rfl
  | k + 1, h => by
    have h1 := catN_size S a hz k (by omega)
    have h2 : (S.getD (a + k) ⟨#[]⟩).size = 140 := by
      rw [getD_get (by omega)]
      exact hz _ (List.getElem_mem _)
    rw [catN, ByteArray.size_append, h1, h2]
    omega

theorem catN_congr {S S' : List ByteArray} (a : Nat) : ∀ k, (∀ j, j < k → S'[a + j]? = S[a + j]?) → catN S' a k = catN S a k
  | 0, _ => rfl
  | k + 1, h => by
    rw [catN, catN, catN_congr a k (fun j hj => h j (by omega)), getD_congr (h k (by omega))]

theorem catN_get (S : List ByteArray) (a : Nat) (hz : AllSz S) : ∀ k, a + k ≤ S.length → ∀ i, i < 140 * k → (catN S a k).data.toList[i]? = (S.getD (a + i / 140) ⟨#[]⟩).data.toList[i % 140]?
  | 0, _, i, hi => by omega
  | k + 1, h, i, hi => by
    have hs := catN_size S a hz k (by omega)
    rw [size_list] at hs
    rw [catN, ByteArray.data_append, Array.toList_append]
    by_cases hlt : i < 140 * k
    · rw [List.getElem?_append_left (by omega)]
      exact catN_get S a hz k (by omega) i hlt
    · rw [List.getElem?_append_right (by omega), hs, show i / 140 = k by omega, show i % 140 = i - 140 * k by omega]

/-- A half that holds a text in its chunks holds the text. -/
theorem cat_half (S : List ByteArray) (a : Nat) (t : ByteArray) (hz : AllSz S) (hf : a + 44 ≤ S.length) (ht : t.size ≤ 6160) (hc : ∀ i, i < chunks t.size → S[a + i]? = some (padTo 140 (chunkB t i))) :
    (catN S a 44).extract 0 t.size = t := by
  have hgt := catN_get S a hz 44 hf
  generalize catN S a 44 = C at *
  apply ba_ext
  rw [extract_list]
  apply List.ext_getElem?
  intro i
  by_cases hi : i < t.size
  · have hq : i / 140 < chunks t.size := by
      unfold chunks
      omega
    have hcl : (chunkB t (i / 140)).data.toList.length = min 140 (t.size - 140 * (i / 140)) := by
      rw [chunkB, extract_list, List.length_take, List.length_drop, ← size_list]
      omega
    have hi2 : i % 140 < min 140 (t.size - 140 * (i / 140)) := by omega
    rw [List.drop_zero, List.getElem?_take_of_lt (by omega), hgt i (by omega), getD_of (hc _ hq), padTo_list, List.getElem?_append_left (by rw [hcl]; exact hi2), chunkB, extract_list, List.getElem?_take_of_lt (by omega), List.getElem?_drop,
      show 140 * (i / 140) + i % 140 = i by omega]
  · rw [List.getElem?_eq_none (by rw [List.length_take]; omega), List.getElem?_eq_none (by rw [← size_list]; omega)]

theorem byteAt_pad (s : ByteArray) (i : Nat) (h : i < s.size) : byteAt (padTo 140 s) i = byteAt s i := by
  rw [byteAt_list, byteAt_list, padTo_list, List.getElem?_append_left (by rw [← size_list]; exact h)]

theorem byteAt_blank (i : Nat) : byteAt blankT i = 0 := by
  rw [byteAt_list, blankT, padTo_list]
  simp only [List.nil_append, List.getElem?_replicate]
  split <;> rfl

theorem head_list (h : HM) : (headB h).data.toList = [72, UInt8.ofNat h.epoch, UInt8.ofNat (h.epoch / 256), UInt8.ofNat (h.epoch / 65536), UInt8.ofNat (h.epoch / 16777216),
    UInt8.ofNat h.side, UInt8.ofNat (h.side / 256), UInt8.ofNat (h.side / 65536), UInt8.ofNat (h.side / 16777216), UInt8.ofNat h.size, UInt8.ofNat (h.size / 256), UInt8.ofNat (h.size / 65536), UInt8.ofNat (h.size / 16777216),
    UInt8.ofNat h.first, UInt8.ofNat (h.first / 256), UInt8.ofNat (h.first / 65536), UInt8.ofNat (h.first / 16777216)] := by
  simp [headB, fourB]

theorem four_back (n : Nat) (h : n < 4294967296) : n % 256 + 256 * (n / 256 % 256) + 65536 * (n / 65536 % 256) + 16777216 * (n / 16777216 % 256) = n := by omega

/-- A head that is laid is read again. -/
theorem headOf_pad (h : HM) (hok : h.ok) (h1 : h.side ≤ 1) (h2 : h.size ≤ 6160) (h3 : 1 ≤ h.first) : headOfM (padTo 140 (headB h)) = h := by
  obtain ⟨o1, o2, o3, o4⟩ := hok
  have hb : ∀ i, i < 17 → byteAt (padTo 140 (headB h)) i = ((headB h).data.toList[i]?.getD 0).toNat := fun i hi => by
    rw [byteAt_pad _ _ (by rw [headB_size]; exact hi), byteAt_list]
  rw [head_list] at hb
  have u0 : byteAt (padTo 140 (headB h)) 0 = 72 := hb 0 (by decide)
  have u1 : unfourN (padTo 140 (headB h)) 1 = h.epoch := by
    unfold unfourN
    rw [hb 1 (by decide), hb (1 + 1) (by decide), hb (1 + 2) (by decide), hb (1 + 3) (by decide)]
    simp
    omega
  have u5 : unfourN (padTo 140 (headB h)) 5 = h.side := by
    unfold unfourN
    rw [hb 5 (by decide), hb (5 + 1) (by decide), hb (5 + 2) (by decide), hb (5 + 3) (by decide)]
    simp
    omega
  have u9 : unfourN (padTo 140 (headB h)) 9 = h.size := by
    unfold unfourN
    rw [hb 9 (by decide), hb (9 + 1) (by decide), hb (9 + 2) (by decide), hb (9 + 3) (by decide)]
    simp
    omega
  have u13 : unfourN (padTo 140 (headB h)) 13 = h.first := by
    unfold unfourN
    rw [hb 13 (by decide), hb (13 + 1) (by decide), hb (13 + 2) (by decide), hb (13 + 3) (by decide)]
    simp
    omega
  unfold headOfM
  rw [u0, u1, u5, u9, u13, if_neg (by omega)]

theorem headOf_blank : headOfM blankT = ⟨0, 0, 0, 0⟩ := by
  unfold headOfM
  rw [if_pos (.inl (by rw [byteAt_blank]; decide))]

/-! ### deeds on rows -/

/-- All deeds done. -/
def foldA (rows : List Chg) (ds : List (List Chg)) : List Chg := ds.foldl applyL rows
theorem foldA_snoc (rows : List Chg) (ds : List (List Chg)) (d : List Chg) : foldA rows (ds ++ [d]) = applyL (foldA rows ds) d := by
  rw [foldA, foldA, List.foldl_append]
  rfl
theorem foldA_take (rows : List Chg) (ds : List (List Chg)) (k : Nat) (d : List Chg) (h : ds[k]? = some d) : foldA rows (ds.take (k + 1)) = applyL (foldA rows (ds.take k)) d := by
  have e : ds.take (k + 1) = ds.take k ++ [d] := by
    rw [List.take_add_one, h]
    rfl
  rw [e, foldA_snoc]
theorem foldA_rising (rows : List Chg) : ∀ (ds : List (List Chg)), Rising rows → Rising (foldA rows ds) := fun ds => by
  induction ds generalizing rows with
  | nil => exact fun h => h
  | cons d ds ih => exact fun h => ih _ (applyL_rising d rows h)

theorem put1_mem {l : List Chg} {c x : Chg} (h : x ∈ put1 l c) : x ∈ l ∨ (x = c ∧ c.gone = false) := by
  unfold put1 at h
  split at h
  · split at h
    · rcases List.mem_append.1 h with h | h
      · exact .inl (List.mem_of_mem_take h)
      · exact .inl (List.mem_of_mem_drop h)
    · rename_i hg
      rcases List.mem_append.1 h with h | h
      · exact .inl (List.mem_of_mem_take h)
      · rcases List.mem_cons.1 h with h | h
        · exact .inr ⟨h, by simpa using hg⟩
        · exact .inl (List.mem_of_mem_drop h)
  · split at h
    · exact .inl h
    · rename_i hg
      rcases List.mem_append.1 h with h | h
      · exact .inl (List.mem_of_mem_take h)
      · rcases List.mem_cons.1 h with h | h
        · exact .inr ⟨h, by simpa using hg⟩
        · exact .inl (List.mem_of_mem_drop h)

theorem applyL_mem : ∀ (m l : List Chg) (x : Chg), x ∈ applyL l m → x ∈ l ∨ (x ∈ m ∧ x.gone = false)
  | [], _, _, h => .inl h
  | c :: m, l, x, h => by
    rcases applyL_mem m (put1 l c) x h with h | h
    · rcases put1_mem h with h | ⟨rfl, h⟩
      · exact .inl h
      · exact .inr ⟨List.mem_cons_self .., h⟩
    · exact .inr ⟨List.mem_cons_of_mem _ h.1, h.2⟩

/-- A deed without fault on good rows. -/
theorem GoodRows.apply {l m : List Chg} (h : GoodRows l) (hm : firstFault m = 0) (hn : (applyL l m).length ≤ 64) : GoodRows (applyL l m) :=
  ⟨applyL_rising m l h.rise, fun c hc => (applyL_mem m l c hc).elim (h.ok c) (fun g => firstFault_zero m hm c g.1), fun c hc => (applyL_mem m l c hc).elim (h.there c) (fun g => g.2), hn⟩
theorem GoodRows.nil : GoodRows [] := ⟨List.Pairwise.nil, by simp, by simp, by simp⟩

/-! ### sectors of a store -/

/-- The sectors say: this head, these rows; no sector of the log is of a later number. -/
structure StoS (S : List ByteArray) (n : Nat) (H : HM) (rows : List Chg) : Prop where
  len : S.length = n
  n1 : 104 ≤ n
  n2 : n ≤ 130
  sz : AllSz S
  h1 : headOfM (S.getD (H.epoch % 2) ⟨#[]⟩) = H
  h2 : (headOfM (S.getD ((H.epoch + 1) % 2) ⟨#[]⟩)).epoch < H.epoch
  side : H.side ≤ 1
  first : 1 ≤ H.first
  fit : H.size = (allB rows).size
  cat : (catN S (2 + H.side * 44) 44).extract 0 H.size = allB rows
  good : GoodRows rows
  old : ∀ (j : Nat) (s : ByteArray) (m : Nat), j < n - 90 → S[90 + j]? = some s → H.first + (n - 90) ≤ m → m < 2147483648 → (lookOf s m).2.2 = false

theorem GoodRows.fits {l : List Chg} (h : GoodRows l) : (allB l).size ≤ 6160 := by
  have h1 := allB_size l h.ok
  have h2 := h.most
  omega

/-- A head of epoch 0 is none at all. -/
theorem headOf_zero (s : ByteArray) (h : (headOfM s).epoch = 0) : headOfM s = ⟨0, 0, 0, 0⟩ ∨ (headOfM s).epoch = 0 := .inr h

theorem StoS.pick {S : List ByteArray} {n : Nat} {H : HM} {rows : List Chg} (h : StoS S n H rows) : pickN S 2 = H := by
  have h1 := h.h1
  have h2 := h.h2
  rcases Nat.mod_two_eq_zero_or_one H.epoch with e | e
  · rw [e] at h1
    rw [show (H.epoch + 1) % 2 = 1 by omega] at h2
    have p1 : pickN S 1 = H := by
      rw [pickN, h1, if_pos (show (pickN S 0).epoch < H.epoch from by show 0 < H.epoch; omega)]
    rw [pickN, p1, if_neg (by omega)]
  · rw [e] at h1
    rw [show (H.epoch + 1) % 2 = 0 by omega] at h2
    have p1 : (pickN S 1).epoch < H.epoch := by
      rw [pickN]
      split
      · exact h2
      · show 0 < H.epoch
        omega
    rw [pickN, h1, if_pos p1]

/-- What touches the log alone keeps the rest. -/
theorem StoS.logged {S S' : List ByteArray} {n : Nat} {H : HM} {rows : List Chg} (h : StoS S n H rows) (hl : S'.length = S.length) (hz : AllSz S') (hlow : ∀ k, k < 90 → S'[k]? = S[k]?)
    (hold : ∀ (j : Nat) (s : ByteArray) (m : Nat), j < n - 90 → S'[90 + j]? = some s → H.first + (n - 90) ≤ m → m < 2147483648 → (lookOf s m).2.2 = false) : StoS S' n H rows := by
  have hs := h.side
  exact ⟨hl.trans h.len, h.n1, h.n2, hz, by rw [getD_congr (hlow _ (by omega))]; exact h.h1, by rw [getD_congr (hlow _ (by omega))]; exact h.h2, h.side, h.first, h.fit,
    by rw [catN_congr _ 44 (fun j hj => hlow _ (by omega))]; exact h.cat, h.good, hold⟩

theorem fourB_inj {a b : Nat} (ha : a < 4294967296) (hb : b < 4294967296) (h : (fourB a).toList = (fourB b).toList) : a = b := by
  rw [ByteArray.toList_eq, ByteArray.toList_eq] at h
  simp only [fourB, List.cons.injEq, and_true] at h
  obtain ⟨h1, h2, h3, h4⟩ := h
  have f : ∀ m k : Nat, UInt8.ofNat m = UInt8.ofNat k → m % 256 = k % 256 := fun m k hm => by
    have := congrArg UInt8.toNat hm
    simpa using this
  have := f _ _ h1
  have := f _ _ h2
  have := f _ _ h3
  have := f _ _ h4
  omega

/-- A sector of one number is none of another. -/
theorem look_other (kind p m : Nat) (s : ByteArray) (hp : p < 2147483648) (hm : m < 2147483648) (hne : p ≠ m) : (lookOf (padTo 140 (textB kind p s)) m).2.2 = false := by
  have e15 : ((padTo 140 (textB kind p s)).extract 1 5) = fourB p := by
    apply ba_ext
    rw [extract_list, padTo_list, text_list]
    rfl
  have : ((fourB p).toList == (fourB m).toList) = false := by
    rw [← Bool.not_eq_true, beq_iff_eq]
    exact fun h => hne (fourB_inj (by omega) (by omega) h)
  unfold lookOf
  rw [e15, this]
  rfl

end Go.Proofs.Ytkapmpngglibjaa
