/- Several texts in one: what each begins with says what it shows. Conditions: each law's own premises. -/
import Derived.Test.YtkapmpngglibjaaQ15
import Derived.Test.YtkapmpngglibjaaQ21
import Derived.Test.YtkapmpngglibjaaQ17
import Derived.Test.YtkapmpngglibjaaQ02
import Derived.Test.YtkapmpngglibjaaQ01

/- log.Open. Conditions: each contract's own premises. -/
namespace Go.Proofs.Ytkapmpngglibjaa
open Go Go.RowKit

def openFail (n : Nat) : Value := .tuple #[.pointer none, .slice none 0 0, errV n]

set_option maxHeartbeats 2000000 in
set_option maxRecDepth 100000 in
theorem open_bad (db : Nat) (X : List Nat) (D : DM) (fr many first : Int) (w : World) (hD : DiskAt w 107 111 db X D)
    (hbad : fr < 0 ∨ many < 1 ∨ (D.now.length : Int) < many ∨ (D.now.length : Int) - many < fr ∨ first < 1) :
    Calls Try.prog 44 #[.pointer (some ⟨db, 0, none⟩), .int .i64 fr, .int .i64 many, .int .i64 first] w (Ret (openFail 1) fun w' => w = w') := by
  have hmost := hD.ok.most
  have hsec := sectors_any 107 111 db X D w hD
  have HSEC := Lib.hid hsec
  generalize D.now.length = n at *
  have n0 : (0 : Int) ≤ (n : Int) := by omega
  have n1 : (n : Int) ≤ 130 := by omega
  clear hsec hD
  by_cases h1 : fr < 0
  · clear hbad
    go_enter Try.func44, Try.ntmps44
    go_wp2_with fail
    go_ret3
    exact Ret.of rfl rfl
  by_cases h2 : many < 1
  · clear hbad
    go_enter Try.func44, Try.ntmps44
    go_wp2_with fail
    go_ret3
    exact Ret.of rfl rfl
  by_cases h3 : (n : Int) < many
  · clear hbad
    go_enter Try.func44, Try.ntmps44
    go_wp2_with fail
    refine HSEC.out.mono ?_
    rintro e w1 ⟨rfl, rfl⟩
    go_wp2_with fail
    go_ret3
    exact Ret.of rfl rfl
  by_cases h4 : (n : Int) - many < fr
  · clear hbad
    go_enter Try.func44, Try.ntmps44
    go_wp2_with fail
    refine HSEC.out.mono ?_
    rintro e w1 ⟨rfl, rfl⟩
    go_wp2_with fail
    refine HSEC.out.mono ?_
    rintro e w1 ⟨rfl, rfl⟩
    go_wp2_with fail
    go_ret3
    exact Ret.of rfl rfl
  · have h5 : first < 1 := by omega
    clear hbad
    go_enter Try.func44, Try.ntmps44
    go_wp2_with fail
    refine HSEC.out.mono ?_
    rintro e w1 ⟨rfl, rfl⟩
    go_wp2_with fail
    refine HSEC.out.mono ?_
    rintro e w1 ⟨rfl, rfl⟩
    go_wp2_with fail
    go_ret3
    exact Ret.of rfl rfl

/-- What opening a log leaves. -/
def OpenRes (w : World) (db fr many first : Nat) (r : List (List Chg) × Nat) (v : Value) (w' : World) : Prop :=
  ∃ b vd, v = .tuple #[.pointer (some ⟨b, 0, none⟩), vd, .nilIface] ∧ w.heap.size ≤ b ∧ LogAt w' b db ⟨fr, many, first, r.2⟩ ∧ DeedsP (fun k => b < k) w' vd r.1 ∧ Below w.heap.size w w'

theorem info36 : (Try.prog.info? 36).map (fun i => (i.zero, i.size, i.bytes)) = some (some (.slice none 0 0), 1, 24) := by kernel_rfl

/-- What is known between two sectors. -/
structure OpenRel (w wr : World) (db fr many first : Nat) (S : List ByteArray) (k : Nat) (out deed : Value) (d : List Chg) (o : List (List Chg)) (nx : Nat) : Prop where
  below : Below w.heap.size w wr
  log : LogAt wr w.heap.size db ⟨fr, many, first, nx⟩
  scn : scan first 0 S [] [] 0 = scan first k (S.drop k) d o nx
  dlen : d.length ≤ k
  olen : o.length ≤ k
  nx : nx ≤ k
  rows : ∃ B vs, w.heap.size + 1 ≤ B ∧ B ≤ wr.heap.size ∧ wr.ownsRow B 64 3 deed d.length (flC d) ∧ wr.ownsRow (w.heap.size + 1) 36 1 out o.length vs ∧ vs.length = o.length ∧
    ∀ (i : Nat) (u : Value) (x : List Chg), vs[i]? = some u → o[i]? = some x → wr.ownsRow (w.heap.size + 1) 64 3 u x.length (flC x) ∧ ∀ g, u.ownBlock = some g → g < B

theorem OpenRel.deeds {w wr : World} {db fr many first : Nat} {S : List ByteArray} {k : Nat} {out deed : Value} {d : List Chg} {o : List (List Chg)} {nx : Nat} (h : OpenRel w wr db fr many first S k out deed d o nx) :
    DeedsP (fun k => w.heap.size < k) wr out o := by
  obtain ⟨B, vs, -, -, -, ho, hl, hr⟩ := h.rows
  exact (DeedsP.of_owns ho hl (Nat.le_refl _) (fun i u x hu hx => (hr i u x hu hx).1)).mono fun k _ hk => by omega

/-- Worlds that keep all that there is. -/
theorem OpenRel.later {w wr w' : World} {db fr many first : Nat} {S : List ByteArray} {k : Nat} {out deed : Value} {d : List Chg} {o : List (List Chg)} {nx : Nat} (h : OpenRel w wr db fr many first S k out deed d o nx)
    (hb : Below wr.heap.size wr w') : OpenRel w w' db fr many first S k out deed d o nx := by
  obtain ⟨B, vs, h1, h2, h3, h4, h5, h6⟩ := h.rows
  have hf := Frame.of_below [] hb
  exact ⟨h.below.trans (hb.mono h.below.size), (hb.block _ (lt_of_heap h.log)).trans h.log, h.scn, h.dlen, h.olen, h.nx,
    B, vs, h1, Nat.le_trans h2 hb.size, owns_frame h3 hf (by simp), owns_frame h4 hf (by simp), h5, fun i u x hu hx => ⟨owns_frame (h6 i u x hu hx).1 hf (by simp), (h6 i u x hu hx).2⟩⟩

theorem owns_form {w : World} {base : Nat} {e : TypeId} {size : Nat} {v : Value} {n : Nat} {xs : List Value} (h : w.ownsRow base e size v n xs) : ∃ ao cap, v = .slice ao n cap := by
  rcases h.2 with ⟨h1, h2⟩ | ⟨g, cap, cur, h1, -⟩
  · exact ⟨none, 0, by rw [h1, h2]⟩
  · exact ⟨_, cap, h1⟩

/-- A change more in the deed that is open. -/
theorem OpenRel.more {w wr w5 : World} {db fr many first : Nat} {S : List ByteArray} {k : Nat} {out deed deed' : Value} {d : List Chg} {o : List (List Chg)} {nx : Nat} (h : OpenRel w wr db fr many first S k out deed d o nx)
    {B : Nat} {vs : List Value} (q1 : w.heap.size + 1 ≤ B) (q2 : B ≤ wr.heap.size) (q3 : wr.ownsRow B 64 3 deed d.length (flC d)) (q4 : wr.ownsRow (w.heap.size + 1) 36 1 out o.length vs) (q5 : vs.length = o.length)
    (q6 : ∀ (i : Nat) (u : Value) (x : List Chg), vs[i]? = some u → o[i]? = some x → wr.ownsRow (w.heap.size + 1) 64 3 u x.length (flC x) ∧ ∀ g, u.ownBlock = some g → g < B)
    (c : Chg) (hs : scan first k (S.drop k) d o nx = scan first (k + 1) (S.drop (k + 1)) (d ++ [c]) o nx) (hf : Frame deed.ownBlock.toList wr w5) (hd : w5.ownsRow B 64 3 deed' (d ++ [c]).length (flC (d ++ [c]))) :
    OpenRel w w5 db fr many first S (k + 1) out deed' (d ++ [c]) o nx := by
  have hX : ∀ g, deed.ownBlock = some g → B ≤ g := fun g hg => (World.ownsRow.lt q3 g hg).1
  have hmem : ∀ g, g ∈ deed.ownBlock.toList → deed.ownBlock = some g := fun g hg => by simpa using hg
  refine ⟨h.below.trans (hf.below h.below.size fun g hg => by have := hX g (hmem g hg); omega), hf.heap h.log (fun hg => by have := hX _ (hmem _ hg); omega), h.scn.trans hs, ?_, Nat.le_succ_of_le h.olen, Nat.le_succ_of_le h.nx,
    B, vs, q1, Nat.le_trans q2 hf.size, hd, owns_frame q4 hf (fun g hg hm => ?_), q5, fun i u x hu hx => ⟨owns_frame (q6 i u x hu hx).1 hf (fun g hg hm => ?_), (q6 i u x hu hx).2⟩⟩
  · have := h.dlen
    simp only [List.length_append, List.length_cons, List.length_nil]
    omega
  · obtain ⟨cur, hc⟩ := owns_lt q4 hg
    exact ownBlock_ne q3 hc (by decide) (hmem g hm)
  · have := (q6 i u x hu hx).2 g hg
    have := hX g (hmem g hm)
    omega

/-- A deed is closed. -/
theorem OpenRel.close {w wr w5 : World} {db fr many first : Nat} {S : List ByteArray} {k : Nat} {out out' deed : Value} {d : List Chg} {o : List (List Chg)} {nx : Nat} (h : OpenRel w wr db fr many first S k out deed d o nx)
    {B : Nat} {vs : List Value} (q1 : w.heap.size + 1 ≤ B) (q2 : B ≤ wr.heap.size) (q3 : wr.ownsRow B 64 3 deed d.length (flC d)) (q4 : wr.ownsRow (w.heap.size + 1) 36 1 out o.length vs) (q5 : vs.length = o.length)
    (q6 : ∀ (i : Nat) (u : Value) (x : List Chg), vs[i]? = some u → o[i]? = some x → wr.ownsRow (w.heap.size + 1) 64 3 u x.length (flC x) ∧ ∀ g, u.ownBlock = some g → g < B)
    (hs : scan first k (S.drop k) d o nx = scan first (k + 1) (S.drop (k + 1)) [] (o ++ [d]) (k + 1)) (hf : Frame out.ownBlock.toList wr w5) (ho : w5.ownsRow (w.heap.size + 1) 36 1 out' (o ++ [d]).length (vs ++ [deed])) :
    OpenRel w (w5.setCell ⟨w.heap.size, 4, none⟩ (.int .i64 ((k : Int) + 1))) db fr many first S (k + 1) out' (.slice none 0 0) [] (o ++ [d]) (k + 1) := by
  have hmem : ∀ g, g ∈ out.ownBlock.toList → out.ownBlock = some g := fun g hg => by simpa using hg
  have hX : ∀ g, out.ownBlock = some g → w.heap.size + 1 ≤ g := fun g hg => (World.ownsRow.lt q4 g hg).1
  have hlog5 : w5.heap[w.heap.size]? = some _ := hf.heap h.log (fun hg => by have := hX _ (hmem _ hg); omega)
  have hne : ∀ {e : TypeId} {s : Nat} {u : Value} {n : Nat} {xs : List Value}, e ≠ 137 → w5.ownsRow (w.heap.size + 1) e s u n xs → (w5.setCell ⟨w.heap.size, 4, none⟩ (.int .i64 ((k : Int) + 1))).ownsRow (w.heap.size + 1) e s u n xs := fun he hu =>
    owns_of_heap hu fun g hg => heap_set_other _ _ _ (fun e => by have := (World.ownsRow.lt hu g hg).1; simp only at e; omega)
  have hfar : ∀ {s : Nat} {u : Value} {n : Nat} {xs : List Value}, wr.ownsRow (w.heap.size + 1) 64 s u n xs → w5.ownsRow (w.heap.size + 1) 64 s u n xs := fun hu =>
    owns_frame hu hf (fun g hg hm => by
      obtain ⟨cur, hc⟩ := owns_lt hu hg
      exact ownBlock_ne q4 hc (by decide) (hmem g hm))
  have hd1 := owns_base q3 q1
  refine ⟨(h.below.trans (hf.below h.below.size fun g hg => by have := hX g (hmem g hg); omega)).setCell (Nat.le_refl _) _, ?_, h.scn.trans hs, Nat.zero_le _, ?_, Nat.le_refl _,
    wr.heap.size, vs ++ [deed], Nat.le_trans q1 q2, by rw [size_set]; exact hf.size, World.ownsRow_nil _ _ _ _, hne (by decide) ho, ?_, ?_⟩
  · unfold LogAt
    rw [heap_set_same 4 _ hlog5, show ((k + 1 : Nat) : Int) = (k : Int) + 1 by omega]
    rfl
  · have := h.olen
    simp only [List.length_append, List.length_cons, List.length_nil]
    omega
  · simp [q5]
  · intro i u x hu hx
    by_cases hi : i < o.length
    · rw [List.getElem?_append_left (by omega)] at hu hx
      exact ⟨hne (by decide) (hfar (q6 i u x hu hx).1), fun g hg => Nat.lt_of_lt_of_le ((q6 i u x hu hx).2 g hg) q2⟩
    · have hil : i = o.length := by
        have := (List.getElem?_eq_some_iff.1 hx).1
        simp at this
        omega
      subst hil
      rw [List.getElem?_append_right (Nat.le_refl _)] at hx
      rw [List.getElem?_append_right (by omega), q5] at hu
      simp at hu hx
      subst hu hx
      exact ⟨hne (by decide) (hfar hd1), fun g hg => (World.ownsRow.lt q3 g hg).2⟩

theorem look_size (s : ByteArray) (n : Nat) (hs : s.size = 140) : (lookOf s n).2.1.size ≤ 140 := by
  unfold lookOf
  split
  · simp only [ByteArray.size_extract]
    omega
  · exact Nat.zero_le _

theorem look_kind (s : ByteArray) (n : Nat) : (lookOf s n).1 < 256 := by
  unfold lookOf
  split
  · exact byteAt_lt s 0
  · simp

set_option maxHeartbeats 4000000 in
set_option maxRecDepth 100000 in
theorem open_any (db : Nat) (X : List Nat) (D : DM) (fr many first : Nat) (w : World) (hD : DiskAt w 107 111 db X D) (h1 : 1 ≤ many) (h2 : fr + many ≤ D.now.length) (h3 : 1 ≤ first) (hd : D.down = false)
    (hsz : ∀ s ∈ D.now, s.size = 140) (hn : first < 1073741824) :
    Calls Try.prog 44 #[.pointer (some ⟨db, 0, none⟩), .int .i64 (fr : Int), .int .i64 (many : Int), .int .i64 (first : Int)] w (RetV (OpenRes w db fr many first (scan first 0 (secs D fr many) [] [] 0))) := by
  obtain ⟨i64, hi, hz0, hz1, hz2⟩ := info_parts info64
  obtain ⟨i36, gi, gz0, gz1, gz2⟩ := info_parts info36
  have hmost := hD.ok.most
  have HSEC := Lib.hid (sectors_any 107 111 db X D w hD)
  have HDOWN := Lib.hid (down_any 107 111 db X D w hD)
  rw [hd] at HDOWN
  have n0 : (0 : Int) ≤ (fr : Int) := by omega
  have n1 : (1 : Int) ≤ (many : Int) := by omega
  have n2 : (many : Int) ≤ (D.now.length : Int) := by omega
  have n3 : (fr : Int) ≤ (D.now.length : Int) - (many : Int) := by omega
  have n4 : (1 : Int) ≤ (first : Int) := by omega
  have n5 : (D.now.length : Int) ≤ 130 := by omega
  have HSZ := Lib.hid hsz
  have HD := Lib.hid hD
  have HN := Lib.hid hn
  have H2 := Lib.hid h2
  clear hsz hD hn h2
  go_enter Try.func44, Try.ntmps44
  go_wp2_with fail
  refine HSEC.out.mono ?_
  rintro e w1 ⟨rfl, rfl⟩
  go_wp2_with fail
  refine HSEC.out.mono ?_
  rintro e w1 ⟨rfl, rfl⟩
  go_wp2_with fail
  refine HDOWN.out.mono ?_
  rintro e w1 ⟨rfl, rfl⟩
  go_wp2_with fail
  have hrel0 : OpenRel w (w.alloc (.cells #[.pointer (some ⟨db, 0, none⟩), .int .i64 (fr : Int), .int .i64 (many : Int), .int .i64 (first : Int), .int .i64 0] 137)) db fr many first (secs D fr many) 0 (.slice none 0 0) (.slice none 0 0) [] [] 0 :=
    ⟨(Below.refl _ _).alloc (Nat.le_refl _) _, heap_alloc_new _ _, rfl, Nat.le_refl _, Nat.le_refl _, Nat.le_refl _, w.heap.size + 1, [], Nat.le_refl _, by rw [size_alloc]; exact Nat.le_refl _, World.ownsRow_nil _ _ _ _, World.ownsRow_nil _ _ _ _, rfl,
      fun i u x hu => by simp at hu⟩
  have HREL0 := Lib.hid hrel0
  have hlen : (secs D fr many).length = many := by rw [secs, List.length_take, List.length_drop]; have := H2.out; omega
  have hsecs : ∀ k, k < many → ∃ s, D.now[fr + k]? = some s ∧ (secs D fr many).drop k = s :: (secs D fr many).drop (k + 1) ∧ s.size = 140 := fun k hk => by
    have h1 : fr + k < D.now.length := by have := H2.out; omega
    refine ⟨D.now[fr + k], List.getElem?_eq_getElem h1, ?_, HSZ.out _ (List.getElem_mem h1)⟩
    rw [List.drop_eq_getElem_cons (by omega)]
    congr 1
    simp [secs]
  have HSECS := Lib.hid hsecs
  have HLEN := Lib.hid hlen
  clear hrel0 hsecs hlen
  go_loopw [12, 13, 55] (fun out deed i wr => ∃ (k : Nat) (d : List Chg) (o : List (List Chg)) (nx : Nat), k ≤ many ∧ i = .int .i64 (k : Int) ∧ Hid (OpenRel w wr db fr many first (secs D fr many) k out deed d o nx)) (fun _ _ i _ => many - (intOf i).toNat)
  case atStart => exact ⟨0, [], [], 0, Nat.zero_le _, rfl, HREL0⟩
  case round =>
    clear HREL0
    obtain ⟨k, d, o, nx, hk, rfl, HREL⟩ := hrel
    have k0 : (0 : Int) ≤ (k : Int) := by omega
    have k2 : (k : Int) ≤ 130 := by omega
    by_cases hlt : k < many
    · have k1 : (k : Int) < (many : Int) := by omega
      obtain ⟨s, hs1, hs2, hs3⟩ := HSECS.out k hlt
      have HS1 := Lib.hid hs1
      have HS2 := Lib.hid hs2
      have HS3 := Lib.hid hs3
      clear hs1 hs2 hs3
      go_wp2_with fail
      refine (look_any w.heap.size db X D ⟨fr, many, first, nx⟩ k s wr (HD.out.frame (Frame.of_below [] HREL.out.below) (by simp)) HREL.out.log hd HS1.out HS3.out (by have := HN.out; simp only; omega)).mono ?_
      rintro e w2 ⟨rfl, hB2⟩
      have HREL2 := Lib.hid (HREL.out.later hB2)
      clear HREL hB2
      simp only
      have hscan : scan first k ((secs D fr many).drop k) d o nx = scan first k (s :: (secs D fr many).drop (k + 1)) d o nx := by rw [HS2.out]
      rw [scan] at hscan
      have HSC := Lib.hid hscan
      have htx := look_size s (first + k) HS3.out
      have hkd := look_kind s (first + k)
      clear hscan
      generalize lookOf s (first + k) = r at *
      obtain ⟨kk, tx, ok⟩ := r
      simp only at *
      have kk0 : (0 : Int) ≤ (kk : Int) := by omega
      have kk1 : (kk : Int) ≤ 255 := by omega
      unfold lookV
      cases ok
      · have hend : scan first 0 (secs D fr many) [] [] 0 = (o, nx) := by rw [HREL2.out.scn, HSC.out]; rfl
        have HEND := Lib.hid hend
        clear hend
        go_wp2_with fail
        go_ret3
        exact RetV.of ⟨_, _, rfl, Nat.le_refl _, by rw [HEND.out]; exact HREL2.out.log, by rw [HEND.out]; exact HREL2.out.deeds, HREL2.out.below⟩
      · by_cases h99 : kk = 99
        · subst h99
          have hdl := HREL2.out.dlen
          obtain ⟨ao, cap, rfl⟩ := owns_form HREL2.out.rows.choose_spec.choose_spec.2.2.1
          have d1 : (d.length : Int) ≤ 130 := by omega
          go_wp2_with fail
          refine (four_any d.length w2 (by omega)).mono ?_
          rintro e w3 ⟨rfl, hB3⟩
          have HREL3 := Lib.hid (HREL2.out.later hB3)
          clear hB3
          cases hE : (tx.toList == (fourB d.length).toList)
          · have hend : scan first 0 (secs D fr many) [] [] 0 = (o, nx) := by rw [HREL3.out.scn, HSC.out, hE]; rfl
            have HEND := Lib.hid hend
            clear hend
            go_wp2_with fail
            go_ret3
            exact RetV.of ⟨_, _, rfl, Nat.le_refl _, by rw [HEND.out]; exact HREL3.out.log, by rw [HEND.out]; exact HREL3.out.deeds, HREL3.out.below⟩

          · have hs : scan first k ((secs D fr many).drop k) d o nx = scan first (k + 1) ((secs D fr many).drop (k + 1)) [] (o ++ [d]) (k + 1) := by rw [HSC.out, hE]; rfl
            obtain ⟨B, vs, q1, q2, q3, q4, q5, q6⟩ := HREL3.out.rows
            have hol := HREL3.out.olen
            have HS := Lib.hid hs
            have Q1 := Lib.hid q1
            have Q2 := Lib.hid q2
            have Q3 := Lib.hid q3
            have Q4 := Lib.hid q4
            have Q5 := Lib.hid q5
            have Q6 := Lib.hid q6
            clear hs q1 q2 q3 q4 q5 q6
            go_wp2_with (at_builtin; refine wpList_append_any rfl (.tmp 81) (.tmp 83) 78 rfl (w.heap.size + 1) 36 i36 _ 1 24 Try.underlying78 gi gz0 gz1 gz2 rfl (by decide) _ o.length vs rfl (World.ownsRow.alloc (w := w3) Q4.out _) (some ⟨w3.heap.size, 0, none⟩) 1 1 [.slice ao d.length cap] rfl rfl ?_ (by simp [Value.oneCell']) (o.length + 1) rfl (by unfold maxLen; omega) (by omega) ?_ ?_)
            · exact fun _ => ⟨_, rfl, fun j u hu => by
                rw [addr_add]
                exact (cell_of (heap_alloc_new w3 _) j).trans (by simpa using hu)⟩
            · rw [size_alloc]
              have := HREL3.out.below.size
              omega
            intro out' w5 ho hg _
            have hf : Frame u12.ownBlock.toList w3 w5 := ((Frame.refl _ w3).alloc (.cells #[.slice ao d.length cap] 36)).grown hg (fun g hg => .inl (by rw [hg]; simp))
            have hlog5 : LogAt w5 w.heap.size db ⟨fr, many, first, nx⟩ := hf.heap HREL3.out.log (fun hm => by
              have := (World.ownsRow.lt Q4.out _ (by simpa using hm)).1
              omega)
            have HNEW := Lib.hid (HREL3.out.close Q1.out Q2.out Q3.out Q4.out Q5.out Q6.out HS.out hf (by rw [List.length_append]; exact ho))
            have l4 := hlog5.cells.2.2.2.2
            have z4 := frozen_of hlog5 4
            clear ho hg hf hlog5
            go_wp2_with fail
            exact ⟨⟨k + 1, [], o ++ [d], k + 1, by omega, by go_num, HNEW⟩, by simp [intOf]; omega⟩
        · have q1 : ((kk : Int) == 99) = false := by simpa using (show ¬ (kk : Int) = 99 by omega)
          have q2 : ¬ (kk : Int) = 99 := by omega
          have hsc2 : scan first k ((secs D fr many).drop k) d o nx =
              if (parseOf tx).2 = 0 then scan first (k + 1) ((secs D fr many).drop (k + 1)) (d ++ [(parseOf tx).1]) o nx else (o, nx) := by
            rw [HSC.out, if_pos rfl, if_neg (by simpa using h99)]
          have HSC2 := Lib.hid hsc2
          clear hsc2
          go_wp2_with fail
          refine (parse_any tx w2 (by omega)).mono ?_
          rintro e w3 ⟨rfl, hB3⟩
          have HREL3' := Lib.hid (HREL2.out.later hB3)
          clear hB3
          generalize parseOf tx = pp at *
          obtain ⟨⟨pk, pv, pg⟩, pm⟩ := pp
          simp only at *
          unfold Chg.v
          have HREL3 := Lib.hid (HREL3'.out.later ((Below.refl _ w3).alloc (Nat.le_refl _) (.cells #[.string pk, .string pv, .bool pg] 64)))
          have HP := Lib.hid (heap_alloc_new w3 (.cells #[.string pk, .string pv, .bool pg] 64))
          by_cases hpm : pm = 0
          · subst hpm
            have e0 : errV 0 = .nilIface := rfl
            rw [e0]
            clear e0
            have hs : scan first k ((secs D fr many).drop k) d o nx = scan first (k + 1) ((secs D fr many).drop (k + 1)) (d ++ [⟨pk, pv, pg⟩]) o nx := by rw [HSC2.out]; rfl
            have HS := Lib.hid hs
            clear hs
            obtain ⟨B, vs, q1', q2', q3, q4, q5, q6⟩ := HREL3.out.rows
            have hdl := HREL3.out.dlen
            have p0 := cell_of HP.out 0
            have p1 := cell_of HP.out 1
            have p2 := cell_of HP.out 2
            simp only [List.getElem?_toArray, List.getElem?_cons_zero, List.getElem?_cons_succ] at p0 p1 p2
            have HQ1 := Lib.hid q1'
            have HQ2 := Lib.hid q2'
            have Q3 := Lib.hid q3
            have Q4 := Lib.hid q4
            have Q5 := Lib.hid q5
            have Q6 := Lib.hid q6
            clear q1' q2' q3 q4 q5 q6
            go_wp2_with (at_builtin; refine wpList_append_any rfl (.tmp 96) (.tmp 98) 36 rfl B 64 i64 _ 3 40 Try.underlying36 hi hz0 hz1 hz2 rfl (by decide) _ d.length (flC d) rfl (World.ownsRow.alloc (w := (w3.alloc (.cells #[.string pk, .string pv, .bool pg] 64))) Q3.out _) (some ⟨w3.heap.size + 1, 0, none⟩) 1 1 [.string pk, .string pv, .bool pg] rfl rfl ?_ (by simp [Value.oneCell']) (d.length + 1) rfl (by unfold maxLen; omega) (by omega) ?_ ?_)
            · have := HQ2.out
              rw [size_alloc] at this
              omega
            intro deed' w5 ho hg _
            have hf : Frame u13.ownBlock.toList (w3.alloc (.cells #[.string pk, .string pv, .bool pg] 64)) w5 := ((Frame.refl _ (w3.alloc (.cells #[.string pk, .string pv, .bool pg] 64))).alloc (.cells #[.string pk, .string pv, .bool pg] 64)).grown hg (fun g hg => .inl (by rw [hg]; simp))
            have HNEW := Lib.hid (HREL3.out.more HQ1.out HQ2.out Q3.out Q4.out Q5.out Q6.out ⟨pk, pv, pg⟩ HS.out hf (by rw [List.length_append, flC_append]; exact ho))
            clear ho hg hf
            go_wp2_with fail
            exact ⟨⟨k + 1, d ++ [⟨pk, pv, pg⟩], o, nx, by omega, by go_num, HNEW⟩, by simp [intOf]; omega⟩
          · have e0 : errV pm = .iface 101 (.int .i64 (pm : Int)) := by simp [errV, hpm]
            rw [e0]
            clear e0
            have hend : scan first 0 (secs D fr many) [] [] 0 = (o, nx) := by rw [HREL3.out.scn, HSC2.out, if_neg hpm]
            have HEND := Lib.hid hend
            clear hend
            go_wp2_with fail
            go_ret3
            exact RetV.of ⟨_, _, rfl, Nat.le_refl _, by rw [HEND.out]; exact HREL3.out.log, by rw [HEND.out]; exact HREL3.out.deeds, HREL3.out.below⟩
    · obtain rfl : k = many := by omega
      have hend : scan first 0 (secs D fr k) [] [] 0 = (o, nx) := by
        rw [HREL.out.scn, List.drop_of_length_le (by rw [HLEN.out]; exact Nat.le_refl _)]
        rfl
      have HEND := Lib.hid hend
      clear hend
      go_wp2_with fail
      go_ret3
      exact RetV.of ⟨_, _, rfl, Nat.le_refl _, by rw [HEND.out]; exact HREL.out.log, by rw [HEND.out]; exact HREL.out.deeds, HREL.out.below⟩

end Go.Proofs.Ytkapmpngglibjaa

/- A log on a disk, plain: what adding does, what is there behind a fall. Conditions: each law's own premises. -/
namespace Go.Proofs.Ytkapmpngglibjaa
open Go Go.RowKit

structure LogGood (L : LM) (D : DM) (ds : List (List Chg)) : Prop where
  of_ : LogOf L D.now ds
  noC : NoC L D.now
  sz : AllSz D.now
  kept : D.kept = D.now
  wait : D.wait = []

theorem noughts_blank : (⟨Array.replicate 140 0⟩ : ByteArray) = blankT := by
  apply ba_ext
  rw [blankT, padTo_list]
  rfl

/-- Blank sectors are a log without deeds. -/
theorem blank_log (L : LM) (S : List ByteArray) (h : L.from_ + L.many ≤ S.length) (h0 : L.next = 0) (h1 : 1 ≤ L.first) (h2 : L.first + L.many < 2147483648) (hb : ∀ j, j < L.many → S[L.from_ + j]? = some blankT) : LogOf L S [] ∧ NoC L S := by
  have hlook : ∀ j, j < L.many → (lookOf blankT (L.first + j)).2.2 = false := fun j hj => look_blank _ (by omega) (by omega)
  have hno : NoC L S := fun j s _ hj hs hc => by
    rw [hb j hj] at hs
    cases hs
    rw [closedS, hlook j hj] at hc
    cases hc.1
  refine ⟨⟨h, h1, h2, ?_⟩, hno⟩
  rw [scan_noC, h0]
  intro j s hs
  have hj := (List.getElem?_eq_some_iff.1 hs).1
  rw [secsL_length _ _ _ h] at hj
  rw [secsL_get _ _ _ _ hj] at hs
  rw [Nat.zero_add]
  exact hno j s (by omega) hj hs

theorem new_log (n : Nat) (L : LM) (h : L.from_ + L.many ≤ n) (h0 : L.next = 0) (h1 : 1 ≤ L.first) (h2 : L.first + L.many < 2147483648) : LogGood L (DM.new n) [] := by
  have e : (DM.new n).now = List.replicate n blankT := by rw [← noughts_blank]; rfl
  have hb := blank_log L (DM.new n).now (by rw [e]; simpa using h) h0 h1 h2 (fun j hj => by rw [e, List.getElem?_replicate, if_pos (by omega)])
  refine ⟨hb.1, hb.2, fun s hs => ?_, rfl, rfl⟩
  rw [e] at hs
  obtain ⟨-, rfl⟩ := List.mem_replicate.1 hs
  exact blankT_size

theorem firstFault_lt : ∀ (l : List Chg), firstFault l ≠ 10
  | [] => by decide
  | c :: l => by
    unfold firstFault
    split
    · exact firstFault_lt l
    · unfold faultOf
      split <;> (try split) <;> omega

/-- The log behind a deed more. -/
def LM.more (L : LM) (l : List Chg) : LM := { L with next := L.next + l.length + 1 }

theorem addL_cases {L : LM} {D : DM} {ds : List (List Chg)} (l : List Chg) (h : LogGood L D ds) :
    ((addL L D l).1 = 0 ∧ (addL L D l).2.2 = L.more l ∧ LogGood (L.more l) (addL L D l).2.1 (ds ++ [l]) ∧ (addL L D l).2.1.down = false) ∨
    ((addL L D l).1 ≠ 0 ∧ (addL L D l).1 ≠ 10 ∧ (addL L D l).2.1 = D ∧ (addL L D l).2.2 = L) ∨
    ((addL L D l).1 = 10 ∧ (addL L D l).2.2 = L ∧ ∀ keep, LogGood L ((addL L D l).2.1.restart keep) ds ∨ LogGood (L.more l) ((addL L D l).2.1.restart keep) (ds ++ [l])) := by
  by_cases h12 : 12 < l.length
  · right; left
    rw [addL, if_pos h12]
    exact ⟨Nat.succ_ne_zero _, by show ¬ (_ : Nat) = 10; simp, rfl, rfl⟩
  by_cases hroom : L.many < L.next + (l.length + 1)
  · right; left
    rw [addL, if_neg h12, if_pos hroom]
    exact ⟨Nat.succ_ne_zero _, by show ¬ (_ : Nat) = 10; simp, rfl, rfl⟩
  by_cases hff : firstFault l ≠ 0
  · right; left
    rw [addL, if_neg h12, if_neg hroom, if_pos hff]
    exact ⟨hff, firstFault_lt l, rfl, rfl⟩
  have hf := firstFault_zero l (by simpa using hff)
  have h1 : L.from_ + L.many ≤ D.now.length := h.of_.fits
  have h2 : L.next + l.length + 1 ≤ L.many := by omega
  have e : addL L D l = ((addRun L l D [0, 1, 2, 3]).1, (addRun L l D [0, 1, 2, 3]).2, if (addRun L l D [0, 1, 2, 3]).1 = 0 then { L with next := L.next + l.length + 1 } else L) := by
    rw [addL, if_neg h12, if_neg hroom, if_neg hff]
  rw [e]
  rcases addRun_cases L l D h1 h2 h.wait h.kept with ⟨r1, r2, r3, r4, r5⟩ | ⟨r1, r2⟩
  · left
    simp only [r1, if_pos]
    exact ⟨trivial, rfl, ⟨r5.log h.of_ hf h2, r5.noC h.of_ h.noC, r5.sz h.sz, r2, r3⟩, r4⟩
  · right; right
    simp only [r1]
    refine ⟨trivial, rfl, fun keep => ?_⟩
    obtain ⟨-, k2, k3, -⟩ := restart_now (addRun L l D [0, 1, 2, 3]).2 keep
    rcases r2 keep with r2 | r2
    · left
      obtain ⟨g1, g2⟩ := r2.log h.of_ h.noC
      exact ⟨g1, g2, r2.sz h.sz, k2, k3⟩
    · right
      exact ⟨r2.log h.of_ hf h2, r2.noC h.of_ h.noC, r2.sz h.sz, k2, k3⟩

theorem LogGood.restart {L : LM} {D : DM} {ds : List (List Chg)} (h : LogGood L D ds) (keep : Nat) : LogGood L (D.restart keep) ds := by
  have e : (D.restart keep).now = D.now := by
    rw [(restart_now D keep).1, h.wait]
    exact h.kept
  obtain ⟨-, k2, k3, -⟩ := restart_now D keep
  exact ⟨by rw [e]; exact h.of_, by rw [e]; exact h.noC, by rw [e]; exact h.sz, k2, k3⟩

/-- A disk that is up takes a deed that fits. -/
theorem addL_up {L : LM} {D : DM} {ds : List (List Chg)} (l : List Chg) (h : LogGood L D ds) (hu : D.Ready) (h12 : l.length ≤ 12) (hroom : L.next + l.length + 1 ≤ L.many) (hff : firstFault l = 0) :
    (addL L D l).1 = 0 ∧ (addL L D l).2.1.Ready := by
  have e : addL L D l = ((addRun L l D [0, 1, 2, 3]).1, (addRun L l D [0, 1, 2, 3]).2, if (addRun L l D [0, 1, 2, 3]).1 = 0 then { L with next := L.next + l.length + 1 } else L) := by
    rw [addL, if_neg (by omega), if_neg (by omega), if_neg (by simpa using hff)]
  rw [e]
  exact addRun_up L l D h.of_.fits hroom h.wait hu

/-- The scan that 'Open' makes. -/
theorem LogGood.scan {L : LM} {D : DM} {ds : List (List Chg)} (h : LogGood L D ds) : scan L.first 0 (secs D L.from_ L.many) [] [] 0 = (ds, L.next) := h.of_.scn

theorem LogOne.opened {base : Nat} {w0 w w' : World} {db : Nat} {X : List Nat} {D : DM} {L : LM} {ds : List (List Chg)} {v : Value} (h : One base w0 w db X D) (ho : OpenRes w db L.from_ L.many L.first (ds, L.next) v w') :
    ∃ b vd, v = .tuple #[.pointer (some ⟨b, 0, none⟩), vd, .nilIface] ∧ w.heap.size ≤ b ∧ LogOne base w0 w' b db X D L ∧ DeedsP (fun k => k ∉ b :: X) w' vd ds ∧ Below w.heap.size w w' := by
  obtain ⟨b, vd, rfl, h1, h2, h3, h4⟩ := ho
  have hX : ∀ k ∈ X, k < w.heap.size := h.d.lt
  refine ⟨b, vd, rfl, h1, ⟨h.later h4, h2, fun hb => by have := hX b hb; omega, Nat.le_trans (Nat.le_trans h.size h.below.size) h1⟩, h3.mono fun k _ hk hm => ?_, h4⟩
  rcases List.mem_cons.1 hm with rfl | hm
  · omega
  · have := hX k hm
    omega

end Go.Proofs.Ytkapmpngglibjaa

/- An append that is guarded, its guard met. Conditions: the law's own premises. -/
namespace Go.Proofs.Ytkapmpngglibjaa
open Go Go.RowKit

theorem wpList_append_want {P : Program} {w : World} {ops : Array Oper} {rest : List Oper} {o : Oper} {a : Act} {Q : Exit → Act → World → Prop} (hgd : Region.wanted o (yielded ops a.tmps) = true) (s x : Operand) (t : TypeId)
    (ho : o.op = .call { callee := .builtin .append, args := #[s, x], argTypes := #[t, t] }) (base : Nat) (e : TypeId) (i : TypeInfo) (z : Value) (size bytes : Nat) (ht : P.underlying t = some (.slice e))
    (hi : P.info? e = some i) (hz : i.zero = some z) (hsize : i.size = size) (hby : i.bytes = bytes) (hzs : z.cells.size = size) (hsz : 0 < size)
    (v : Value) (n : Nat) (xs : List Value) (hs : a.eval s = v) (hown : w.ownsRow base e size v n xs) (sp : Option Addr) (m c : Nat) (news : List Value) (hx : a.eval x = .slice sp m c) (hl : news.length = m * size)
    (hnews : 0 < m → ∃ ad, sp = some ad ∧ ∀ j u, news[j]? = some u → w.cell? (ad.add j) = some u) (h1 : ∀ u ∈ news, u.oneCell' = true)
    (N : Nat) (hN : n + m = N) (h63 : N ≤ maxLen) (hbytes : N * bytes ≤ 140737488355328) (hbase : base ≤ w.heap.size)
    (h : ∀ v' w', w'.ownsRow base e size v' N (xs ++ news) → w.grownBy w' v.ownBlock → (v'.ownBlock = v.ownBlock ∨ v'.ownBlock = some w.heap.size) → wpList P ops Q rest (a.put o.dst v') w') :
    wpList P ops Q (o :: rest) a w := by
  subst hN
  refine wpList_step fun K hK => ?_
  rw [if_pos hgd]
  by_cases h00 : m = 0
  · subst h00
    obtain rfl : news = [] := List.eq_nil_of_length_eq_zero (by simpa using hl)
    have hform : ∃ d cap, v = .slice d n cap ∧ n ≤ cap := by
      rcases hown.2 with ⟨h1, h2⟩ | ⟨g, cap, cur, h1, -, -, h2, -⟩
      · exact ⟨none, 0, by rw [h1, h2], by omega⟩
      · exact ⟨_, _, h1, h2⟩
    obtain ⟨d, cap, rfl, hle⟩ := hform
    have hrun := run_append_roomK_none (P := P) w t o.type e size ht (by rw [hi]; simp [hsize]) d sp n cap c hle
    unfold Oper.wp
    simp [execOp, ho, resolve, invoke, builtin, hs, hx, hrun, Result.andThen]
    exact hK _ _ (h _ w (by simpa using hown) (World.grownBy.refl _ _) (.inl rfl))
  · obtain ⟨ad, rfl, hc⟩ := hnews (by omega)
    obtain ⟨v', w', hr, h2, h3, _, h5⟩ := run_append_own_at (P := P) w base t o.type e i z size bytes ht hi hz hsize hby hzs hsz v n xs hown ad m c news hl hc h1 h63 hbytes hbase
    unfold Oper.wp
    simp [execOp, ho, resolve, invoke, builtin, hs, hx, hr, Result.andThen]
    exact hK _ _ (h v' w' h2 h3 h5)


end Go.Proofs.Ytkapmpngglibjaa

/- Deeds gathered beside a log; a disk that is up takes a deed. Conditions: the contract's own premises. -/
namespace Go.Proofs.Ytkapmpngglibjaa
open Go Go.RowKit

theorem DM.arm_same (D : DM) (n : Int) : (D.arm n).now = D.now ∧ (D.arm n).kept = D.kept ∧ (D.arm n).wait = D.wait := ⟨rfl, rfl, rfl⟩
theorem LogGood.arm {L : LM} {D : DM} {ds : List (List Chg)} (h : LogGood L D ds) (n : Int) : LogGood L (D.arm n) ds := ⟨h.of_, h.noC, h.sz, h.kept, h.wait⟩
theorem LogOne.moved0 {base : Nat} {w0 w w1 : World} {b db : Nat} {X : List Nat} {D D' : DM} {L : LM} (h : LogOne base w0 w b db X D L) (h1 : DiskAt w1 107 111 db X D') (f1 : Frame X w w1) : LogOne base w0 w1 b db X D' L :=
  ⟨h.o.moved h1 f1 (Fresh.refl _ _), f1.heap h.l h.nb, h.nb, h.lo⟩
theorem DeedsP.moved0 {w w' : World} {b : Nat} {X : List Nat} {v : Value} {ds : List (List Chg)} (h : DeedsP (fun k => k ∉ b :: X) w v ds) (hf : Frame X w w') : DeedsP (fun k => k ∉ b :: X) w' v ds :=
  h.frame hf fun k hk hX => hk (by simp [hX])

theorem DeedsP.elem {S : Nat → Prop} {w : World} {ao : Option Addr} {n cap : Nat} {ds : List (List Chg)} (h : DeedsP S w (.slice ao n cap) ds) (i : Nat) (d : List Chg) (hd : ds[i]? = some d) :
    ∃ b off u, ao = some ⟨b, off, none⟩ ∧ S b ∧ w.cell? ⟨b, off + i, none⟩ = some u ∧ ChgP S w u d := by
  obtain ⟨ao', cap', he, hr⟩ := h.form
  cases he
  exact hr i d hd

theorem addRun_wait (L : LM) (l : List Chg) : ∀ (js : List Nat) (D : DM), (addRun L l D js).2.wait.length ≤ D.wait.length + js.length * (l.length + 1)
  | [], D => by simp [addRun]
  | j :: js, D => by
    have h1 := addStep_wait L l D j
    have h2 := addRun_wait L l js (addStep L l D j).2
    rw [addRun]
    simp only [List.length_cons, Nat.add_mul, Nat.one_mul]
    split <;> omega
theorem addL_wait (L : LM) (D : DM) (l : List Chg) : (addL L D l).2.1.wait.length ≤ D.wait.length + 4 * (l.length + 1) := by
  have h := addRun_wait L l [0, 1, 2, 3] D
  unfold addL
  split
  · simp
  · split
    · simp
    · split
      · simp
      · exact h

theorem snoc_deeds {w3 w6 : World} {b : Nat} {Y : List Nat} {v : Value} {vs : List Value} {u : Value} {ds : List (List Chg)} {d : List Chg} {n : Nat} (hlt : ∀ k ∈ b :: Y, k < w3.heap.size) (ho : w6.ownsRow w3.heap.size 36 1 v n (vs ++ [u])) (hn : n = ds.length + 1)
    (hl : vs.length = ds.length) (hel : ∀ (i : Nat) (u : Value) (d : List Chg), vs[i]? = some u → ds[i]? = some d → ChgP (fun k => k ∉ b :: Y) w3 u d) (hu : ChgP (fun k => k ∉ b :: Y) w3 u d) (hB : Below w3.heap.size w3 w6) :
    DeedsP (fun k => k ∉ b :: Y) w6 v (ds ++ [d]) :=
  DeedsP.of_own ho (by rw [hn, List.length_append]; rfl) (by simp [hl]) (fun k hk _ hm => by have := hlt k hm; omega)
    (snoc_elems hl (fun i u d h1 h2 => (hel i u d h1 h2).later hB) (hu.later hB))

theorem zz_ok : firstFault [⟨⟨#[122]⟩, ⟨#[122]⟩, false⟩] = 0 := by
  unfold firstFault
  have : faultOf ⟨⟨#[122]⟩, ⟨#[122]⟩, false⟩ = 0 := by
    unfold faultOf
    rw [if_neg (by simp [ByteArray.toList_eq]), if_neg (by decide)]
  rw [if_pos this]
  rfl

/-- The end of the walk: a deed more behind the fall. -/
theorem app_ok {base : Nat} {w0 w : World} {b db : Nat} {X : List Nat} {D : DM} {L : LM} {ds : List (List Chg)} (h : LogOne base w0 w b db X D L) (hg : LogGood L D ds) (hu : D.Ready) (d : List Chg) (h1 : L.from_ + L.many ≤ 130) (h3 : L.first < 1073741824)
    (h12 : d.length ≤ 12) (hroom : L.next + d.length + 1 ≤ L.many) (hff : firstFault d = 0) (v : Value) (hv : ChgP (fun k => k ∉ b :: X) w v d) :
    Calls Try.prog 47 #[.pointer (some ⟨b, 0, none⟩), v] w (Ret .nilIface fun w' => ∃ Y D', D'.Ready ∧ LogGood (L.more d) D' (ds ++ [d]) ∧ LogOne base w0 w' b db Y D' (L.more d) ∧ Fresh w X Y ∧ Frame (b :: X) w w') := by
  have hn : L.next ≤ L.many := hg.of_.next_le
  obtain ⟨z1, z2⟩ := addL_up d hg hu h12 hroom hff
  refine (add_any b db X D L v d w h.o.d h.l h.nb (hv.mono fun k _ hk hX => hk (by simp [hX])) h1 hn h3 (by rw [hg.wait]; exact (by decide : 0 < 8000)) (by omega)).mono ?_
  rintro e w' ⟨rfl, ha⟩
  rcases addL_cases d hg with ⟨c1, c2, c3, c4⟩ | ⟨c1, c2, c3, c4⟩ | ⟨c1, c2, c3⟩
  · rw [c2] at ha
    obtain ⟨Y, h1, h2, h3⟩ := h.added ha
    exact Ret.of (by rw [c1]; rfl) ⟨Y, _, z2, c3, h1, h2, h3⟩
  · exact absurd z1 c1
  · rw [z1] at c1
    cases c1

/-- What adding answers where the disk is up. -/
def addF (L : LM) (l : List Chg) : Nat := if 12 < l.length then 2 else if L.many < L.next + (l.length + 1) then 9 else firstFault l

theorem add_up {base : Nat} {w0 w : World} {b db : Nat} {X : List Nat} {D : DM} {L : LM} {ds : List (List Chg)} (h : LogOne base w0 w b db X D L) (hg : LogGood L D ds) (hu : D.Ready) (d : List Chg) (h1 : L.from_ + L.many ≤ 130) (h3 : L.first < 1073741824)
    (hl : d.length ≤ 1000) (v : Value) (hv : ChgP (fun k => k ∉ b :: X) w v d) :
    Calls Try.prog 47 #[.pointer (some ⟨b, 0, none⟩), v] w (Ret (errV (addF L d)) fun w' => ∃ Y D' L' ds', D'.Ready ∧ LogGood L' D' ds' ∧ LogOne base w0 w' b db Y D' L' ∧ Fresh w X Y ∧ Frame (b :: X) w w' ∧
      ((addF L d = 0 ∧ L' = L.more d ∧ ds' = ds ++ [d]) ∨ (addF L d ≠ 0 ∧ L' = L ∧ ds' = ds))) := by
  have hn : L.next ≤ L.many := hg.of_.next_le
  by_cases h0 : addF L d = 0
  · have h12 : d.length ≤ 12 := by
      unfold addF at h0
      split at h0 <;> omega
    have hroom : L.next + d.length + 1 ≤ L.many := by
      unfold addF at h0
      split at h0
      · omega
      · split at h0 <;> omega
    have hff : firstFault d = 0 := by
      rw [addF, if_neg (by omega), if_neg (by omega)] at h0
      exact h0
    refine (app_ok h hg hu d h1 h3 h12 hroom hff v hv).mono ?_
    rintro e w' ⟨rfl, Y, D', q1, q2, q3, q4, q5⟩
    exact Ret.of (by rw [h0]; rfl) ⟨Y, D', L.more d, ds ++ [d], q1, q2, q3, q4, q5, .inl ⟨h0, rfl, rfl⟩⟩
  · refine (add_any b db X D L v d w h.o.d h.l h.nb (hv.mono fun k _ hk hX => hk (by simp [hX])) h1 hn h3 (by rw [hg.wait]; exact (by decide : 0 < 8000)) hl).mono ?_
    rintro e w' ⟨rfl, ha⟩
    have e : addL L D d = (addF L d, D, L) := by
      unfold addL addF
      split
      · rfl
      · split
        · rfl
        · rename_i ha hb
          rw [addF, if_neg ha, if_neg hb] at h0
          rw [if_pos h0]
    rw [e] at ha ⊢
    obtain ⟨Y, q1, q2, q3⟩ := h.added ha
    exact Ret.of rfl ⟨Y, D, L, ds, hu, hg, q1, q2, q3, .inr ⟨h0, rfl, rfl⟩⟩

end Go.Proofs.Ytkapmpngglibjaa
