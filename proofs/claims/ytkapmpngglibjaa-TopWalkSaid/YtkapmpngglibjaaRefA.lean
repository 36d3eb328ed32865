/- The document's disk: step, read, write. Conditions: each contract's own premises. -/
import Derived.Test.YtkapmpngglibjaaDiskS
import Derived.Test.YtkapmpngglibjaaDiskN
namespace Go.Proofs.Ytkapmpngglibjaa
open Go Go.RowKit

set_option maxHeartbeats 400000 in
theorem noughts_any (n : Nat) (w : World) (hn : n ≤ 140) :
    Calls Try.prog 66 #[.int .i64 (n : Int)] w (Ret (.string ⟨Array.replicate n 0⟩) fun w' => Below w.heap.size w w') := by
  have hmk := mk_bytes n hn
  have hcv := fun (u : World) => run_convert_bytes_back (P := Try.prog) (u.alloc (.cells (madeCells #[.int .u8 0] n) 5)) 129 9 5 ⟨u.heap.size, 0, none⟩ n (List.replicate n 0) Try.underlying129 Try.underlying5 Try.underlying9
    (by intro j hj; rw [List.length_replicate] at hj; have h := cell_made u n j hj; by_cases h0 : j = 0 <;> simp [Addr.add, h0] <;> simpa [h0] using h)
  simp only [List.length_replicate] at hcv
  have h0 : (0 : Int) ≤ (n : Int) := by omega
  have h1 : (n : Int) ≤ 140 := by omega
  go_enter Try.func66, Try.ntmps66
  go_wp2
  go_ret
  exact Ret.of (by simp) ((Below.refl _ _).alloc (Nat.le_refl _) _)

/-- An error of the document, by its number. -/
def errN (n : Nat) : Value := .int .i64 (n : Int)

set_option maxHeartbeats 400000 in
theorem rstep_any (b : Nat) (X : List Nat) (D : DM) (w : World) (hD : DiskAt w 50 113 b X D) :
    Calls Try.prog 68 #[.pointer (some ⟨b, 0, none⟩)] w (Ret (errN D.stepErr) fun w' => DiskAt w' 50 113 b X D.step.2 ∧ Frame X w w') := by
  obtain ⟨c3, c4, hz, hX⟩ := hD.cells
  have hf := hD.ok.fuse
  have hf' := hD.ok.fuse'
  have z3 := hz 3
  have z4 := hz 4
  clear hz
  by_cases hd : D.down = true
  · rw [hd] at c4
    have H := Lib.hid hd
    clear hd
    go_enter Try.func68, Try.ntmps68
    go_wp2
    go_ret
    have hd := H.out
    exact Ret.of (by simp [DM.stepErr, DM.step, hd, errN]) ⟨by simpa [DM.step, hd] using hD, Frame.refl _ _⟩
  · have hd' : D.down = false := by simpa using hd
    rw [hd'] at c4
    have H := Lib.hid hd'
    clear hd hd'
    by_cases h0 : D.fuse = 0
    · have H0 := Lib.hid h0
      rw [h0] at c3
      clear h0
      go_enter Try.func68, Try.ntmps68
      go_wp2
      go_ret
      have hd := H.out
      have h0 := H0.out
      refine Ret.of (by simp [DM.stepErr, DM.step, hd, h0, errN]) ⟨?_, ((Frame.refl X w).set (.inl hX) _).set (.inl hX) _⟩
      have := (hD.setDown true).setFuse (-1) (by omega) (by omega)
      simpa [DM.step, hd, h0] using this
    · have h0' : (D.fuse == 0) = false := by simpa using h0
      have H0 := Lib.hid h0
      by_cases hp : 0 < D.fuse
      · clear h0
        go_enter Try.func68, Try.ntmps68
        go_wp2
        go_ret
        have hd := H.out
        have h0 := H0.out
        refine Ret.of (by simp [DM.stepErr, DM.step, hd, h0, errN]) ⟨?_, (Frame.refl X w).set (.inl hX) _⟩
        have := hD.setFuse (D.fuse - 1) (by omega) (by omega)
        have e : max (D.fuse - 1) (-1) = D.fuse - 1 := by omega
        simpa [DM.step, hd, h0, e] using this
      · have hm : D.fuse = -1 := by omega
        have HM := Lib.hid hm
        rw [hm] at c3
        clear h0 h0' hm hp
        go_enter Try.func68, Try.ntmps68
        go_wp2
        go_ret
        have hd := H.out
        have h0 := H0.out
        have hm := HM.out
        refine Ret.of (by simp [DM.stepErr, DM.step, hd, h0, errN]) ⟨?_, Frame.refl _ _⟩
        have e : D.step.2 = D := by
          unfold DM.step
          rw [if_neg (by rw [hd]; simp), if_neg h0]
          cases D
          simp only at hm
          subst hm
          rfl
        rw [e]
        exact hD

/-- A text and an error, as the document has it. -/
def readN (r : ByteArray × Nat) : Value := .tuple #[.string r.1, errN r.2]

set_option maxHeartbeats 400000 in
theorem rread_any (b : Nat) (X : List Nat) (D : DM) (n : Int) (w : World) (hD : DiskAt w 50 113 b X D) :
    Calls Try.prog 20 #[.pointer (some ⟨b, 0, none⟩), .int .i64 n] w (Ret (readN (D.read n)) fun w' => w = w') := by
  obtain ⟨c3, c4, -, -⟩ := hD.cells
  obtain ⟨-, ⟨v1, c1⟩, -⟩ := hD.cell0
  obtain ⟨g, cap, rfl, -, -, hcap, -, hcs, -⟩ := hD.now_of c1
  by_cases hd : D.down = true
  · rw [hd] at c4
    have H := Lib.hid hd
    clear hd
    clear hcs
    go_enter Try.func20, Try.ntmps20
    go_wp2
    go_ret2
    refine Ret.of ?_ rfl
    rw [show D.read n = (ByteArray.empty, 10) from by rw [DM.read, if_pos H.out]]
    rfl
  · have hd' : D.down = false := by simpa using hd
    rw [hd'] at c4
    have H := Lib.hid hd'
    clear hd hd'
    by_cases h1 : n < 0
    · clear hcs
      go_enter Try.func20, Try.ntmps20
      go_wp2
      go_ret2
      refine Ret.of ?_ rfl
      rw [show D.read n = (ByteArray.empty, 1) from by rw [DM.read, if_neg (by rw [H.out]; simp), if_pos (by omega)]]
      rfl
    by_cases h2 : (D.now.length : Int) ≤ n
    · clear hcs
      go_enter Try.func20, Try.ntmps20
      go_wp2
      go_ret2
      refine Ret.of ?_ rfl
      rw [show D.read n = (ByteArray.empty, 1) from by rw [DM.read, if_neg (by rw [H.out]; simp), if_pos (by omega)]]
      rfl
    · obtain ⟨k, rfl⟩ := Int.eq_ofNat_of_zero_le (show 0 ≤ n by omega)
      have ck := hcs k (by omega)
      have a1 : (0 : Int) ≤ (k : Int) := by omega
      have a2 : (k : Int) < (D.now.length : Int) := by omega
      clear hcs
      obtain ⟨s, hs⟩ : ∃ s, D.now.getD k ByteArray.empty = s := ⟨_, rfl⟩
      rw [hs] at ck
      have HS := Lib.hid hs
      clear hs h1 h2
      go_enter Try.func20, Try.ntmps20
      go_wp2
      go_ret2
      refine Ret.of ?_ rfl
      have e : D.read (k : Int) = (D.now.getD k ByteArray.empty, 0) := by
        rw [DM.read, if_neg (by rw [H.out]; simp), if_neg (by omega)]; rfl
      rw [e, HS.out]
      rfl

theorem info113 : (Try.prog.info? 113).map (fun i => (i.zero, i.size, i.bytes)) = some (some (.agg #[.int .i64 0, .string ByteArray.empty]), 2, 24) := by kernel_rfl

set_option maxHeartbeats 400000 in
theorem rwrite_bad (b : Nat) (X : List Nat) (D : DM) (at_ : Int) (s : ByteArray) (w : World) (hD : DiskAt w 50 113 b X D) (hbad : at_ < 0 ∨ (D.now.length : Int) ≤ at_ ∨ 140 < s.size) :
    Calls Try.prog 18 #[.pointer (some ⟨b, 0, none⟩), .int .i64 at_, .string s] w (Ret (errN 1) fun w' => w = w') := by
  obtain ⟨-, ⟨v1, c1⟩, -⟩ := hD.cell0
  obtain ⟨g, cap, rfl, -, -, hcap, -, -, -⟩ := hD.now_of c1
  have hm := hD.ok.most
  by_cases a1 : at_ < 0
  · clear hbad
    go_enter Try.func18, Try.ntmps18
    go_wp2
    go_ret
    exact Ret.of rfl rfl
  by_cases a2 : (D.now.length : Int) ≤ at_
  · clear hbad
    go_enter Try.func18, Try.ntmps18
    go_wp2
    go_ret
    exact Ret.of rfl rfl
  · have a3 : (140 : Int) < (s.size : Int) := by omega
    clear hbad
    go_enter Try.func18, Try.ntmps18
    go_wp2
    go_ret
    exact Ret.of rfl rfl

set_option maxHeartbeats 400000 in
set_option maxRecDepth 100000 in
theorem rwrite_down (b : Nat) (X : List Nat) (D : DM) (at_ : Nat) (s : ByteArray) (w : World) (hD : DiskAt w 50 113 b X D) (ha : at_ < D.now.length) (hs : s.size ≤ 140) (hst : D.step.1 = false) :
    Calls Try.prog 18 #[.pointer (some ⟨b, 0, none⟩), .int .i64 (at_ : Int), .string s] w (Ret (errN 10) fun w' => DiskAt w' 50 113 b X D.step.2 ∧ Frame X w w') := by
  obtain ⟨-, ⟨v1, c1⟩, -⟩ := hD.cell0
  obtain ⟨g, cap, rfl, -, -, hcap, -, -, -⟩ := hD.now_of c1
  have hm := hD.ok.most
  have a1 : (0 : Int) ≤ (at_ : Int) := by omega
  have a2 : (at_ : Int) < (D.now.length : Int) := by omega
  have a3 : (s.size : Int) ≤ 140 := by omega
  go_enter Try.func18, Try.ntmps18
  go_wp2_with fail
  refine (rstep_any b X D _ hD).mono ?_
  rintro e w1 ⟨rfl, hD1, hF1⟩
  have e0 : errN D.stepErr = .int .i64 10 := by simp [errN, DM.stepErr, hst]
  rw [e0]
  clear e0
  go_wp2_with fail
  go_ret
  exact Ret.of rfl ⟨hD1, hF1⟩

set_option maxHeartbeats 400000 in
set_option maxRecDepth 100000 in
theorem rwrite_good (b : Nat) (X : List Nat) (D : DM) (at_ : Nat) (s : ByteArray) (w : World) (hD : DiskAt w 50 113 b X D) (ha : at_ < D.now.length) (hs : s.size ≤ 140) (hst : D.step.1 = true) (hw : D.wait.length < 10000) :
    Calls Try.prog 18 #[.pointer (some ⟨b, 0, none⟩), .int .i64 (at_ : Int), .string s] w (Ret (errN 0) fun w' => ∃ Y, DiskAt w' 50 113 b Y (D.step.2.put at_ s) ∧ Frame X w w' ∧ Fresh w X Y) := by
  obtain ⟨-, ⟨v1, c1⟩, -⟩ := hD.cell0
  obtain ⟨g, cap, rfl, -, -, hcap, -, -, -⟩ := hD.now_of c1
  have hm := hD.ok.most
  have a1 : (0 : Int) ≤ (at_ : Int) := by omega
  have a2 : (at_ : Int) < (D.now.length : Int) := by omega
  have a3 : (s.size : Int) ≤ 140 := by omega
  have e1 := D.step_now
  have H1 := Lib.hid e1
  clear e1
  obtain ⟨n, hn⟩ : ∃ n : Nat, n = 140 - s.size := ⟨_, rfl⟩
  have n0 : (140 : Int) - (s.size : Int) = (n : Int) := by omega
  have HN := Lib.hid hn
  have hn140 : n ≤ 140 := by omega
  clear hn
  go_enter Try.func18, Try.ntmps18
  go_wp2_with fail
  refine (rstep_any b X D _ hD).mono ?_
  rintro e w1 ⟨rfl, hD1, hF1⟩
  have e0 : errN D.stepErr = .int .i64 0 := by simp [errN, DM.stepErr, hst]
  rw [e0]
  clear e0 c1
  have e1 := H1.out
  clear H1
  have ha1 : at_ < D.step.2.now.length := by rw [e1.1]; exact ha
  have hw1 : D.step.2.wait.length < 10000 := by rw [e1.2.1]; exact hw
  clear e1
  generalize hE : D.step.2 = D1 at *
  have HE := Lib.hid hE
  clear hE
  have hm1 := hD1.ok.most
  have hbX := hD1.cells.2.2.2
  have a2' : (at_ : Int) < (D1.now.length : Int) := by omega
  go_wp2_with fail
  refine (noughts_any n _ hn140).mono ?_
  rintro e w2 ⟨rfl, hB⟩
  have hF2 := Frame.of_below [] hB
  clear hB
  have hD2 := hD1.frame hF2 (by simp)
  obtain ⟨-, ⟨v1, c1⟩, -⟩ := hD2.cell0
  obtain ⟨g, cap, rfl, -, hgX, -, hz, hc, hset⟩ := hD2.now_of c1
  have z2 := hz at_
  have c2 := hc at_ ha1
  have hp : s ++ ⟨Array.replicate n 0⟩ = padTo 140 s := by rw [padTo, HN.out]
  have hD3 := hset at_ (padTo 140 s) ha1
  have hF3 := ((hF1.then' hF2 (by simp)).set (p := ⟨g, at_, none⟩) (.inl hgX) (.string (padTo 140 s)))
  obtain ⟨-, -, ⟨v2, d2⟩⟩ := hD3.cell0
  obtain ⟨hown, hvX, hmk⟩ := hD3.wait_of d2
  have hlt3 := hD3.lt
  have hz3 := hD3.cells.2.2.1 2
  clear hz hc hset
  have hnb : b ∉ v2.ownBlock.toList := fun h => (hvX b (by simpa using h)).2 rfl
  obtain ⟨i0, hi, hz0, hz1, hz2⟩ := info_parts info113
  have hown4 := owns_frame (X := []) hown ((Frame.refl _ (w2.setCell ⟨g, at_, none⟩ (.string (padTo 140 s)))).alloc (.cells #[.int .i64 (at_ : Int), .string (padTo 140 s)] 113)) (by simp)
  have HH := Lib.hid (And.intro hD3 hF3)
  clear hD3 hF3
  go_wp2_with (at_builtin; simp only [hp] at *; refine wpList_append_lies _ rfl (.tmp 46) (.tmp 50) 48 rfl 0 113 i0 _ 2 24 Try.underlying48 hi hz0 hz1 hz2 rfl (by decide) v2 _ _ rfl hown4 ⟨w2.heap.size, 0, none⟩ 1 1 [.int .i64 (at_ : Int), .string (padTo 140 s)] rfl rfl ?_ ?_ ?_ ?_ ?_ ?_ (w2.heap.size + 1) ?_ ?_)
  · have := World.news_of_block (cs := #[.int .i64 (at_ : Int), .string (padTo 140 s)]) (heap_alloc_new (w2.setCell ⟨g, at_, none⟩ (.string (padTo 140 s))) (.cells #[.int .i64 (at_ : Int), .string (padTo 140 s)] 113))
    rw [size_set] at this
    exact this
  · simp [Value.oneCell']
  · decide
  · unfold maxLen; omega
  · omega
  · exact Nat.zero_le _
  · rw [size_alloc, size_set]
  intro gg cap5 w5 hown5 hgrow5 hat5 hlt5
  obtain ⟨hD3, hF3⟩ := HH.out
  have hF5 : Frame v2.ownBlock.toList (w2.setCell ⟨g, at_, none⟩ (.string (padTo 140 s))) w5 := ((Frame.refl _ _).alloc _).grown hgrow5 (fun k hk => .inl (by simp [hk]))
  have z5 : w5.frozen? ⟨b, 2, none⟩ = false := by rw [hF5.frozen (a := ⟨b, 2, none⟩) (hlt3 b hbX) hnb]; exact hz3
  have c5 := hF5.cell d2 hnb
  have HF5 := Lib.hid hF5
  clear hF5 hown4 hD3 hF3 hgrow5 c2 d2 c1 hp
  go_wp2_with fail
  go_ret
  obtain ⟨hD3, hF3⟩ := HH.out
  have hF5 := HF5.out
  have hggb : gg ≠ b := fun e => by
    rcases hat5 with h | h
    · exact (hvX gg h).2 e
    · have := hlt3 b hbX
      rw [size_set] at this
      omega
  have hsz := hF5.size
  rw [size_set] at hsz
  refine Ret.of rfl ⟨gg :: X, ?_, ?_, ?_⟩
  · rw [HE.out]
    refine hmk w5 _ (D1.wait ++ [(at_, padTo 140 s)]) (gg :: X) (by rw [waitCells_append]; simpa using hown5) hF5.size (fun k hk hne => hF5.block k hk (by simpa using hne)) (fun k hk e => hggb (by cases hk; exact e)) (fun k hk => List.mem_cons_of_mem _ hk)
      (fun k hk => by cases hk; exact List.mem_cons_self ..) (fun k hk => ?_) (fun t ht => ?_)
    · rcases List.mem_cons.1 hk with rfl | hk
      · exact hlt5
      · have := hlt3 k hk
        rw [size_set] at this
        omega
    · simp only [List.mem_append, List.mem_singleton] at ht
      rcases ht with ht | rfl
      · simpa using hD3.ok.at_ t ht
      · simpa using ha1
  · exact (hF3.then' hF5 (fun k hk => .inl (hvX k (by simpa using hk)).1)).set (.inl hbX) _
  · intro k hk
    rcases List.mem_cons.1 hk with rfl | hk
    · rcases hat5 with h | h
      · exact .inl (hvX _ h).1
      · have := hF3.size
        rw [size_set] at this
        exact .inr (by omega)
    · exact .inl hk

/-- The write, as the plain disk has it. -/
theorem rwrite_any (b : Nat) (X : List Nat) (D : DM) (at_ : Int) (s : ByteArray) (w : World) (hD : DiskAt w 50 113 b X D) (hw : D.wait.length < 10000) :
    Calls Try.prog 18 #[.pointer (some ⟨b, 0, none⟩), .int .i64 at_, .string s] w (Ret (errN (D.write at_ s).1) fun w' => ∃ Y, DiskAt w' 50 113 b Y (D.write at_ s).2 ∧ Frame X w w' ∧ Fresh w X Y) := by
  by_cases hbad : at_ < 0 ∨ (D.now.length : Int) ≤ at_ ∨ 140 < s.size
  · refine (rwrite_bad b X D at_ s w hD hbad).mono ?_
    rintro e w' ⟨rfl, rfl⟩
    have e1 : D.write at_ s = (1, D) := by simp [DM.write, hbad]
    rw [e1]
    exact Ret.of rfl ⟨X, hD, Frame.refl _ _, Fresh.refl _ _⟩
  · obtain ⟨n, rfl⟩ := Int.eq_ofNat_of_zero_le (show 0 ≤ at_ by omega)
    by_cases hst : D.step.1 = true
    · refine (rwrite_good b X D n s w hD (by omega) (by omega) hst hw).mono ?_
      rintro e w' ⟨rfl, h⟩
      have e1 : D.write (n : Int) s = (0, D.step.2.put n s) := by rw [DM.write, if_neg hbad, if_pos hst]; rfl
      rw [e1]
      exact Ret.of rfl h
    · refine (rwrite_down b X D n s w hD (by omega) (by omega) (by simpa using hst)).mono ?_
      rintro e w' ⟨rfl, h1, h2⟩
      have e1 : D.write (n : Int) s = (10, D.step.2) := by rw [DM.write, if_neg hbad, if_neg hst]
      rw [e1]
      exact Ret.of rfl ⟨X, h1, h2, Fresh.refl _ _⟩
end Go.Proofs.Ytkapmpngglibjaa
