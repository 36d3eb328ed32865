/- The law LogSays, walked. Conditions: the contract's own premises. -/
import Derived.Test.YtkapmpngglibjaaLogK
import Derived.Test.YtkapmpngglibjaaLogY
import Derived.Test.YtkapmpngglibjaaLogLgs
import Derived.Test.YtkapmpngglibjaaGd
import Derived.Test.YtkapmpngglibjaaFork
namespace Go.Proofs.Ytkapmpngglibjaa
open Go Go.RowKit

theorem new_sz (n : Nat) : AllSz (DM.new n).now := by
  have e : (DM.new n).now = List.replicate n blankT := by rw [← noughts_blank]; rfl
  intro s hs
  rw [e] at hs
  obtain ⟨-, rfl⟩ := List.mem_replicate.1 hs
  exact blankT_size

theorem AllSz.set {S : List ByteArray} (h : AllSz S) (i : Nat) {s : ByteArray} (hs : s.size = 140) : AllSz (S.set i s) := fun x hx => by
  rcases List.mem_or_eq_of_mem_set hx with h1 | rfl
  · exact h x h1
  · exact hs

theorem ChgP.elem {S : Nat → Prop} {w : World} {ao : Option Addr} {n cap : Nat} {d : List Chg} (h : ChgP S w (.slice ao n cap) d) (i : Nat) (c : Chg) (hc : d[i]? = some c) :
    ∃ b off, ao = some ⟨b, off, none⟩ ∧ w.cell? ⟨b, off + i * 3, none⟩ = some (.string c.key) ∧ w.cell? ⟨b, off + i * 3 + 1, none⟩ = some (.string c.val) ∧ w.cell? ⟨b, off + i * 3 + 2, none⟩ = some (.bool c.gone) := by
  obtain ⟨ao', cap', he, -, hr⟩ := h
  cases he
  obtain ⟨b, off, h1, -, h2⟩ := hr i c hc
  exact ⟨b, off, h1, h2⟩

/-- What a write does where the disk is up. -/
theorem write_upW {D : DM} (hu : D.Ready) (hz : AllSz D.now) (i : Nat) (s : ByteArray) (hi : i < D.now.length) (hs : s.size ≤ 140) :
    (D.write (i : Int) s).1 = 0 ∧ (D.write (i : Int) s).2.Ready ∧ AllSz (D.write (i : Int) s).2.now ∧ (D.write (i : Int) s).2.now.length = D.now.length ∧ (D.write (i : Int) s).2.wait.length ≤ D.wait.length + 1 := by
  obtain ⟨h1, h2⟩ := write_up hu i s hi hs
  refine ⟨h1, h2, ?_, DM.wr_len D i s, DM.wr_wait D i s⟩
  rcases write_cases D i s hi hs with ⟨-, -, q, -, -⟩ | ⟨q, -⟩
  · rw [q]
    exact hz.set i (padTo_size _ hs)
  · rw [h1] at q
    cases q

theorem scan_len (first : Nat) : ∀ (S : List ByteArray) (i : Nat) (deed : List Chg) (out : List (List Chg)) (nx : Nat) (o : List (List Chg)) (m : Nat), scan first i S deed out nx = (o, m) →
    o.length ≤ out.length + S.length ∧ ∀ d ∈ o, d ∈ out ∨ d.length ≤ deed.length + S.length
  | [], i, deed, out, nx, o, m, h => by
    cases h
    exact ⟨Nat.le_refl _, fun d hd => .inl hd⟩
  | s :: l, i, deed, out, nx, o, m, h => by
    have base : scan first i (s :: l) deed out nx = (out, nx) → o.length ≤ out.length + (s :: l).length ∧ ∀ d ∈ o, d ∈ out ∨ d.length ≤ deed.length + (s :: l).length := fun h' => by
      rw [h] at h'
      cases h'
      exact ⟨Nat.le_add_right _ _, fun d hd => .inl hd⟩
    have h0 := h
    rw [scan] at h
    split at h
    · split at h
      · split at h
        · obtain ⟨q1, q2⟩ := scan_len first l (i + 1) [] (out ++ [deed]) (i + 1) o m h
          simp only [List.length_append, List.length_cons, List.length_nil] at q1 ⊢
          refine ⟨by omega, fun d hd => ?_⟩
          rcases q2 d hd with q | q
          · rcases List.mem_append.1 q with q | q
            · exact .inl q
            · obtain rfl := List.mem_singleton.1 q
              exact .inr (Nat.le_add_right _ _)
          · right
            simp only [List.length_nil] at q
            omega
        · exact base (h0.trans (h ▸ rfl))
      · split at h
        · obtain ⟨q1, q2⟩ := scan_len first l (i + 1) (deed ++ [(parseOf (lookOf s (first + i)).2.1).1]) out nx o m h
          simp only [List.length_append, List.length_cons, List.length_nil] at q1 q2 ⊢
          refine ⟨by omega, fun d hd => ?_⟩
          rcases q2 d hd with q | q
          · exact .inl q
          · right
            omega
        · exact base (h0.trans (h ▸ rfl))
    · exact base (h0.trans (h ▸ rfl))

/-- What is known between two acts. -/
structure LS (w0 w : World) (N fr mn fs k : Nat) (db b : Nat) (Y : List Nat) (D : DM) (L : LM) (ds : List (List Chg)) (got want : Value) : Prop where
  o : LogOne w0.heap.size w0 w b db Y D L
  of_ : LogOf L D.now ds
  sz : AllSz D.now
  up : D.Ready
  fr : L.from_ = fr
  many : L.many = mn
  first : L.first = fs
  len : D.now.length = N
  wait : D.wait.length ≤ 40 + 100 * k
  got : DeedsP (fun k => k ∉ b :: Y) w got ds
  want : DeedsP (fun k => k ∉ b :: Y) w want ds
  dl : ds.length ≤ 60 + k
  el : ∀ d ∈ ds, d.length ≤ 200

theorem LS.later {w0 w w' : World} {N fr mn fs k db b : Nat} {Y : List Nat} {D : DM} {L : LM} {ds : List (List Chg)} {got want : Value} (h : LS w0 w N fr mn fs k db b Y D L ds got want) (hb : Below w.heap.size w w') :
    LS w0 w' N fr mn fs k db b Y D L ds got want :=
  { h with o := h.o.later hb, got := h.got.later hb, want := h.want.later hb }
theorem LS.next {w0 w : World} {N fr mn fs k db b : Nat} {Y : List Nat} {D : DM} {L : LM} {ds : List (List Chg)} {got want : Value} (h : LS w0 w N fr mn fs k db b Y D L ds got want) : LS w0 w N fr mn fs (k + 1) db b Y D L ds got want :=
  { h with wait := by have := h.wait; omega, dl := by have := h.dl; omega }

set_option maxHeartbeats 40000000 in
set_option maxRecDepth 100000 in
theorem logSays_any (v va : Value) (secs0 : List ByteArray) (fr mn fs : Int) (acts : List (ActM × Value)) (w : World) (hs : StrsAt w v secs0) (ha : ActsAt w va acts)
    (b1 : -9223372036854775808 ≤ fr ∧ fr ≤ 9223372036854775807) (b2 : -9223372036854775808 ≤ mn ∧ mn ≤ 9223372036854775807) (b3 : -9223372036854775808 ≤ fs ∧ fs ≤ 9223372036854775807) :
    Calls Try.prog 8 #[v, .int .i64 fr, .int .i64 mn, .int .i64 fs, va] w (Ret (.bool true) fun w' => Below w.heap.size w w') := by
  obtain ⟨i9, si, sz0, sz1, sz2⟩ := info_parts info9
  obtain ⟨i36, gi, gz0, gz1, gz2⟩ := info_parts info36
  have HS := Lib.hid hs
  have HACT := Lib.hid ha
  have HB := Lib.hid (fun (_ : Unit) => And.intro b1 (And.intro b2 b3))
  obtain ⟨ao, cap, rfl, hm, -⟩ := hs
  obtain ⟨aa, acap, rfl, ham, hget⟩ := ha.get
  have HGET := Lib.hid hget
  unfold maxLen at hm ham
  clear ha b1 b2 b3 hget
  obtain ⟨n, hn⟩ : ∃ n, n = secs0.length := ⟨_, rfl⟩
  obtain ⟨na, hna⟩ : ∃ n, n = acts.length := ⟨_, rfl⟩
  rw [← hn] at hm HS ⊢
  rw [← hna] at ham HACT ⊢
  have HN := Lib.hid hn
  have HNA := Lib.hid hna
  clear hn hna
  have HM := Lib.hid (fun (_ : Unit) => And.intro hm ham)
  have n0 : (0 : Int) ≤ (n : Int) := by omega
  have na0 : (0 : Int) ≤ (na : Int) := by omega
  clear hm ham
  by_cases h40 : 40 < n
  case pos =>
    have h40' : (40 : Int) < (n : Int) := by omega
    go_enter Try.func8, Try.ntmps8
    go_wp2_with fail
    refine (logs_any w).mono ?_
    rintro e w1 ⟨rfl, hB1⟩
    go_wp2_with fail
    go_ret
    exact Ret.of rfl hB1
  have h40' : (n : Int) ≤ 40 := by omega
  clear h40
  cases hlight : lightActs acts 20
  case false =>
    go_enter Try.func8, Try.ntmps8
    go_wp2_with fail
    refine (logs_any w).mono ?_
    rintro e w1 ⟨rfl, hB1⟩
    go_wp2_with fail
    have hla := lightActs_any _ acts 20 w1 (HACT.out.below hB1)
    rw [hlight] at hla
    refine hla.mono ?_
    rintro e w2 ⟨rfl, rfl⟩
    clear hla hlight
    go_wp2_with fail
    go_ret
    exact Ret.of rfl hB1
  have hna20 : na ≤ 20 := by
    rw [HNA.out]
    rw [lightActs, Bool.and_eq_true, decide_eq_true_eq] at hlight
    omega
  have na1 : (na : Int) ≤ 20 := by omega
  have HLT := Lib.hid (fun (_ : Unit) => hlight)
  by_cases hbigf : (1000000 : Int) < fs
  case pos =>
    have hx : ((1000000 : Int) < fs) = True := eq_true hbigf
    go_enter Try.func8, Try.ntmps8
    go_wp2_with fail
    refine (logs_any w).mono ?_
    rintro e w1 ⟨rfl, hB1⟩
    clear hbigf
    go_wp2_with fail
    have hla := lightActs_any _ acts 20 w1 (HACT.out.below hB1)
    rw [hlight] at hla
    refine hla.mono ?_
    rintro e w2 ⟨rfl, rfl⟩
    clear hla hlight
    go_wp2_with fail
    go_ret
    exact Ret.of rfl hB1
  have hx : ((1000000 : Int) < fs) = False := eq_false hbigf
  have HFS := Lib.hid (fun (_ : Unit) => Int.not_lt.1 hbigf)
  clear hbigf
  go_enter Try.func8, Try.ntmps8
  go_wp2_with fail
  refine (logs_any w).mono ?_
  rintro e w1 ⟨rfl, hB1⟩
  go_wp2_with fail
  have hla := lightActs_any _ acts 20 w1 (HACT.out.below hB1)
  rw [hlight] at hla
  refine hla.mono ?_
  rintro e w2 ⟨rfl, rfl⟩
  have HB1 := Lib.hid hB1
  clear hla hlight hB1
  go_wp2_with fail
  go_loop [12] (fun i => ∃ k : Nat, k ≤ n ∧ i = .int .i64 (k : Int) ∧ Hid (∀ (j : Nat) (s : ByteArray), j < k → secs0[j]? = some s → s.size ≤ 140)) (fun i => n - (intOf i).toNat)
  case atStart => exact ⟨0, Nat.zero_le _, rfl, fun j s hj => absurd hj (by omega)⟩
  case round =>
    obtain ⟨k, hk, rfl, HSZ⟩ := hrel
    have k0 : (0 : Int) ≤ (k : Int) := by omega
    by_cases hlt : k < n
    · have k1 : (k : Int) < (n : Int) := by omega
      obtain ⟨s, hs⟩ : ∃ s, secs0[k]? = some s := ⟨_, List.getElem?_eq_getElem (by rw [← HN.out]; exact hlt)⟩
      obtain ⟨b0, off, rfl, hc⟩ := HS.out.elem k s hs
      have c0 := (HB1.out.cell (World.block_lt_of_cell? w _ hc)).trans hc
      have HK := Lib.hid hs
      clear hs hc
      by_cases hbig : 140 < s.size
      · have hbig' : (140 : Int) < (s.size : Int) := by omega
        go_wp2_with fail
        go_ret
        exact Ret.of rfl HB1.out
      · have hbig' : (s.size : Int) ≤ 140 := by omega
        have HSZ2 := Lib.hid (show ∀ (j : Nat) (s : ByteArray), j < k + 1 → secs0[j]? = some s → s.size ≤ 140 from fun j t hj ht => by
          by_cases hjk : j < k
          · exact HSZ.out j t hjk ht
          · obtain rfl : j = k := by omega
            rw [HK.out] at ht
            cases ht
            omega)
        go_wp2_with fail
        go_round
        case rel => exact ⟨k + 1, by omega, by go_num, HSZ2⟩
        case measure => simp [intOf]; omega
    · obtain rfl : k = n := by omega
      have HSZA := Lib.hid (show ∀ (j : Nat) (s : ByteArray), secs0[j]? = some s → s.size ≤ 140 from fun j s hs => HSZ.out j s (by rw [HN.out]; exact (List.getElem?_eq_some_iff.1 hs).1) hs)
      obtain ⟨N, hN⟩ : ∃ N : Nat, N = max 1 k := ⟨_, rfl⟩
      have hN1 : 1 ≤ N := by omega
      have hN2 : N ≤ 40 := by omega
      have hNn : k ≤ N := by omega
      have hmx : max (1 : Int) (k : Int) = (N : Int) := by omega
      clear hN HSZ
      go_wp2_with fail
      refine (new_good N _ hN1 (by omega)).mono ?_
      rintro e w2 ⟨vd, rfl, db, X, rfl, hD, hB, hX⟩
      have hO : One w.heap.size w w2 db X (DM.new N) := ⟨hD, fun k hk => Nat.le_trans HB1.out.size (hX k hk), HB1.out.trans (hB.mono HB1.out.size), Nat.le_refl _⟩
      have HO := Lib.hid (show One w.heap.size w w2 db X (DM.new N) ∧ (DM.new N).Ready ∧ AllSz (DM.new N).now ∧ (DM.new N).now.length = N ∧ (DM.new N).wait.length ≤ 0 from ⟨hO, ⟨rfl, rfl⟩, new_sz N, by simp [DM.new], Nat.le_refl _⟩)
      generalize DM.new N = D0 at *
      clear hO hD hB hX hmx
      go_wp2_with fail
      go_loopw [15] (fun i wr => ∃ (j : Nat) (X' : _) (D' : DM), j ≤ k ∧ i = .int .i64 (j : Int) ∧ Hid (One w.heap.size w wr db X' D' ∧ D'.Ready ∧ AllSz D'.now ∧ D'.now.length = N ∧ D'.wait.length ≤ j)) (fun i _ => k - (intOf i).toNat)
      case atStart => exact ⟨0, X, D0, Nat.zero_le _, rfl, HO⟩
      case round =>
        clear HO
        obtain ⟨j, X', D', hj, rfl, HO⟩ := hrel
        have j0 : (0 : Int) ≤ (j : Int) := by omega
        by_cases hlt : j < k
        · have j1 : (j : Int) < (k : Int) := by omega
          obtain ⟨s, hs⟩ : ∃ s, secs0[j]? = some s := ⟨_, List.getElem?_eq_getElem (by rw [← HN.out]; exact hlt)⟩
          obtain ⟨b0, off, rfl, hc⟩ := HS.out.elem j s hs
          have c0 := (HO.out.1.below.cell (World.block_lt_of_cell? w _ hc)).trans hc
          have hs140 := HSZA.out j s hs
          clear hs hc
          go_wp2_with fail
          obtain ⟨g1, g2, g3, g4, g5⟩ := write_upW HO.out.2.1 HO.out.2.2.1 j s (by rw [HO.out.2.2.2.1]; omega) hs140
          have hwr := write_any db X' D' (j : Int) s wr HO.out.1.d (by have := HO.out.2.2.2.2; omega)
          rw [g1, show errV 0 = .nilIface from rfl] at hwr
          refine hwr.mono ?_
          rintro e w3 ⟨rfl, Y, hD3, hF3, hR3⟩
          have HO3 := Lib.hid (show One w.heap.size w w3 db Y (D'.write (j : Int) s).2 ∧ (D'.write (j : Int) s).2.Ready ∧ AllSz (D'.write (j : Int) s).2.now ∧ (D'.write (j : Int) s).2.now.length = N ∧ (D'.write (j : Int) s).2.wait.length ≤ j + 1 from
            ⟨HO.out.1.moved hD3 hF3 hR3, g2, g3, g4.trans HO.out.2.2.2.1, by have := HO.out.2.2.2.2; omega⟩)
          generalize (D'.write (j : Int) s).2 = D3 at *
          clear hwr hD3 hF3 hR3 g1 g2 g3 g4 g5 c0
          go_wp2_with fail
          exact ⟨⟨j + 1, Y, D3, by omega, by go_num, HO3⟩, by simp [intOf]; omega⟩
        · obtain rfl : j = k := by omega
          clear hlt
          have hsec := sectors_any 107 111 db X' D' wr HO.out.1.d
          rw [HO.out.2.2.2.1] at hsec
          have HSEC := Lib.hid hsec
          clear hsec
          have N0 : (1 : Int) ≤ (N : Int) := by omega
          have N1 : (N : Int) ≤ 40 := by omega
          go_wp2_with fail
          by_cases q1 : fr < 0
          case pos =>
            refine (open_bad db X' D' fr mn fs wr HO.out.1.d (by rw [HO.out.2.2.2.1]; omega)).mono ?_
            rintro e w3 ⟨rfl, rfl⟩
            unfold openFail
            go_wp2_with (go_at_call 16; refine HSEC.out.mono ?_; rintro e w' ⟨rfl, rfl⟩)
            refine (same_any 1 1 wr).mono ?_
            rintro e w4 ⟨rfl, rfl⟩
            go_wp2_with fail
            go_ret
            exact Ret.of rfl HO.out.1.below

          have q1' : 0 ≤ fr := by omega
          clear q1
          by_cases q2 : mn < 1
          case pos =>
            refine (open_bad db X' D' fr mn fs wr HO.out.1.d (by rw [HO.out.2.2.2.1]; omega)).mono ?_
            rintro e w3 ⟨rfl, rfl⟩
            unfold openFail
            go_wp2_with (go_at_call 16; refine HSEC.out.mono ?_; rintro e w' ⟨rfl, rfl⟩)
            refine (same_any 1 1 wr).mono ?_
            rintro e w4 ⟨rfl, rfl⟩
            go_wp2_with fail
            go_ret
            exact Ret.of rfl HO.out.1.below

          have q2' : 1 ≤ mn := by omega
          clear q2
          by_cases q3 : (N : Int) < mn
          case pos =>
            refine (open_bad db X' D' fr mn fs wr HO.out.1.d (by rw [HO.out.2.2.2.1]; omega)).mono ?_
            rintro e w3 ⟨rfl, rfl⟩
            unfold openFail
            go_wp2_with (go_at_call 16; refine HSEC.out.mono ?_; rintro e w' ⟨rfl, rfl⟩)
            refine (same_any 1 1 wr).mono ?_
            rintro e w4 ⟨rfl, rfl⟩
            go_wp2_with fail
            go_ret
            exact Ret.of rfl HO.out.1.below

          have q3' : mn ≤ (N : Int) := by omega
          clear q3
          by_cases q4 : (N : Int) - mn < fr
          case pos =>
            refine (open_bad db X' D' fr mn fs wr HO.out.1.d (by rw [HO.out.2.2.2.1]; omega)).mono ?_
            rintro e w3 ⟨rfl, rfl⟩
            unfold openFail
            go_wp2_with (go_at_call 16; refine HSEC.out.mono ?_; rintro e w' ⟨rfl, rfl⟩)
            refine (same_any 1 1 wr).mono ?_
            rintro e w4 ⟨rfl, rfl⟩
            go_wp2_with fail
            go_ret
            exact Ret.of rfl HO.out.1.below

          have q4' : fr ≤ (N : Int) - mn := by omega
          clear q4
          by_cases q5 : fs < 1
          case pos =>
            refine (open_bad db X' D' fr mn fs wr HO.out.1.d (by rw [HO.out.2.2.2.1]; omega)).mono ?_
            rintro e w3 ⟨rfl, rfl⟩
            unfold openFail
            go_wp2_with (go_at_call 16; refine HSEC.out.mono ?_; rintro e w' ⟨rfl, rfl⟩)
            refine (same_any 1 1 wr).mono ?_
            rintro e w4 ⟨rfl, rfl⟩
            go_wp2_with fail
            go_ret
            exact Ret.of rfl HO.out.1.below

          have q5' : 1 ≤ fs := by omega
          clear q5
          obtain ⟨fr, rfl⟩ := Int.eq_ofNat_of_zero_le q1'
          obtain ⟨mn, rfl⟩ := Int.eq_ofNat_of_zero_le (show 0 ≤ mn by omega)
          obtain ⟨fs, rfl⟩ := Int.eq_ofNat_of_zero_le (show 0 ≤ fs by omega)
          obtain ⟨ds, nx, hsc⟩ : ∃ ds nx, scan fs 0 (secs D' fr mn) [] [] 0 = (ds, nx) := ⟨_, _, rfl⟩
          have hof : LogOf ⟨fr, mn, fs, nx⟩ D'.now ds := ⟨by rw [HO.out.2.2.2.1]; simp only; omega, by simp only; omega, by have := HFS.out (); simp only; omega, hsc⟩
          have hslen : (secs D' fr mn).length = mn := by
            rw [secs, List.length_take, List.length_drop, HO.out.2.2.2.1]
            omega
          obtain ⟨hdl, hdel⟩ := scan_len fs _ 0 [] [] 0 ds nx hsc
          rw [hslen] at hdl hdel
          have hop := open_any db X' D' fr mn fs wr HO.out.1.d (by omega) (by rw [HO.out.2.2.2.1]; omega) (by omega) HO.out.2.1.1 HO.out.2.2.1 (by have := HFS.out (); omega)
          rw [hsc] at hop
          refine hop.mono ?_
          clear hop
          rintro e w3 ⟨v3, rfl, ho3⟩
          obtain ⟨b, vd3, rfl, -, hLO3, hd3, hbl3⟩ := LogOne.opened (L := ⟨fr, mn, fs, nx⟩) HO.out.1 ho3
          obtain ⟨ao3, cap3, rfl, -⟩ := hd3.form
          have hsec3 := sectors_any 107 111 db X' D' w3 hLO3.o.d
          rw [HO.out.2.2.2.1] at hsec3
          have HSEC3 := Lib.hid hsec3
          have HLO3 := Lib.hid hLO3
          have HD3 := Lib.hid hd3
          have HOF := Lib.hid (fun (_ : Unit) => And.intro hof (And.intro hdl (And.intro hdel (And.intro hslen hsc))))
          clear hsec3 hLO3 hd3 ho3 hof hdl hdel hslen hsc hbl3
          have e1 : ((fr : Int) < 0) = False := eq_false (by omega)
          have e2 : ((mn : Int) < 1) = False := eq_false (by omega)
          have e2' : (mn < 1) = False := eq_false (by omega)
          have e2'' : (mn = 0) = False := eq_false (by omega)
          have e3 : ((N : Int) < (mn : Int)) = False := eq_false (by omega)
          have e3' : (N < mn) = False := eq_false (by omega)
          have e4 : ((N : Int) - (mn : Int) < (fr : Int)) = False := eq_false (by omega)
          have e5 : ((fs : Int) < 1) = False := eq_false (by omega)
          have e5' : (fs < 1) = False := eq_false (by omega)
          have e5'' : (fs = 0) = False := eq_false (by omega)
          go_wp2_with (go_at_call 16; refine HSEC3.out.mono ?_; rintro e w' ⟨rfl, rfl⟩)
          clear e1 e2 e2' e2'' e3 e3' e4 e5 e5' e5''
          have hrow0 : w3.ownsRow w3.heap.size 9 1 (.slice none 0 0) 0 (((secs D' fr mn).take 0).map Value.string) := by
            rw [List.take_zero]
            exact World.ownsRow_nil _ _ _ _
          have HR0 := Lib.hid hrow0
          clear hrow0
          go_loopw [18, 19] (fun now i wr => ∃ (k : Nat), k ≤ mn ∧ i = .int .i64 (k : Int) ∧ Hid (Below w3.heap.size w3 wr ∧ wr.ownsRow w3.heap.size 9 1 now k (((secs D' fr mn).take k).map Value.string))) (fun _ i _ => mn - (intOf i).toNat)
          case atStart => exact ⟨0, Nat.zero_le _, rfl, Below.refl _ _, HR0.out⟩
          case round =>
            clear HR0
            obtain ⟨k, hk, rfl, HR⟩ := hrel
            have k0 : (0 : Int) ≤ (k : Int) := by omega
            by_cases hlt : k < mn
            · have k1 : (k : Int) < (mn : Int) := by omega
              obtain ⟨s, hs⟩ : ∃ s, (secs D' fr mn)[k]? = some s := ⟨_, List.getElem?_eq_getElem (by rw [(HOF.out ()).2.2.2.1]; exact hlt)⟩
              have hnow : D'.now[fr + k]? = some s := by
                rw [secs_eq, secsL_get _ _ _ _ hlt] at hs
                exact hs
              have hLOr := HLO3.out.later HR.out.1
              have hrd := read_ok db X' D' (fr + k) s _ hLOr.o.d HO.out.2.1.1 hnow
              rw [show ((fr + k : Nat) : Int) = (fr : Int) + (k : Int) by omega] at hrd
              have HK := Lib.hid (fun (_ : Unit) => hs)
              have hwr2 : IntKind.i64.wrap ((fr : Int) + (k : Int)) = (fr : Int) + (k : Int) := IntWalk.i64_in _ (by omega)
              clear hs hnow hLOr
              go_wp2_with fail
              refine hrd.mono ?_
              rintro e w4 ⟨rfl, rfl⟩
              clear hrd hwr2
              obtain ⟨aow, capw, rfl⟩ := owns_form HR.out.2
              go_wp2_with (at_builtin; refine wpList_append_any rfl (.tmp 148) (.tmp 150) 47 rfl w3.heap.size 9 i9 _ 1 16 Try.underlying47 si sz0 sz1 sz2 rfl (by decide) _ k (((secs D' fr mn).take k).map Value.string) rfl (World.ownsRow.alloc (w := w4) HR.out.2 _) (some ⟨w4.heap.size, 0, none⟩) 1 1 [.string s] rfl rfl ?_ (by simp [Value.oneCell']) (k + 1) rfl (by unfold maxLen; omega) (by omega) ?_ ?_)
              · exact fun _ => ⟨_, rfl, fun j u hu => by
                  rw [addr_add]
                  exact (cell_of (heap_alloc_new w4 _) j).trans (by simpa using hu)⟩
              · exact Nat.le_trans HR.out.1.size (by simp)
              intro v5 w5 ho hg _
              have HR5 := Lib.hid (show Below w3.heap.size w3 w5 ∧ w5.ownsRow w3.heap.size 9 1 v5 (k + 1) (((secs D' fr mn).take (k + 1)).map Value.string) from
                ⟨(HR.out.1.alloc HR.out.1.size _).grown hg (Nat.le_trans HR.out.1.size (by simp)) (fun b hb => (World.ownsRow.lt HR.out.2 b hb).1), by
                  rw [List.take_add_one, HK.out (), List.map_append, List.map_take]
                  exact ho⟩)
              clear ho hg
              go_wp2_with fail
              first | exact ⟨⟨k + 1, by omega, by go_num, HR5⟩, by simp [intOf]; omega⟩ | (go_roundw; exact ⟨k + 1, by omega, by go_num, HR5⟩; (simp [intOf]; omega))

            · obtain rfl : k = mn := by omega
              clear hlt
              obtain ⟨aow, capw, rfl⟩ := owns_form HR.out.2
              have hcl := closed_any (.slice aow k capw) (secs D' fr k) fs wr w3.heap.size (by
                have h := HR.out.2
                rw [List.take_of_length_le (by rw [(HOF.out ()).2.2.2.1]; exact Nat.le_refl _)] at h
                rw [(HOF.out ()).2.2.2.1]
                exact h) (by rw [(HOF.out ()).2.2.2.1]; omega) (fun s hs => HO.out.2.2.1 s (List.mem_of_mem_drop (List.mem_of_mem_take hs))) (by have := HFS.out (); omega)
              rw [(HOF.out ()).2.2.2.2] at hcl
              have HB4 := Lib.hid HR.out.1
              clear HR
              go_wp2_with fail
              refine hcl.mono ?_
              clear hcl
              rintro e w4 ⟨v4, rfl, vd4, rfl, hd4, hb4⟩
              simp only at hd4
              have HLO4 := Lib.hid ((HLO3.out.later HB4.out).later hb4)
              have HG4 := Lib.hid ((HD3.out.later HB4.out).later hb4)
              have hltb : ∀ k ∈ b :: X', k < wr.heap.size := fun k hk => by
                rcases List.mem_cons.1 hk with rfl | hk
                · exact Nat.lt_of_lt_of_le HLO3.out.lt HB4.out.size
                · exact (HLO3.out.later HB4.out).o.d.lt k hk
              have HW4 := Lib.hid (show DeedsP (fun k => k ∉ b :: X') w4 vd4 ds from hd4.mono fun k _ (hk : wr.heap.size ≤ k) hm => by have := hltb k hm; omega)
              obtain ⟨ao4, cap4, rfl, -⟩ := hd4.form
              clear hd4 hb4 hltb
              have HLS := Lib.hid (show LS w w4 N fr k fs 0 db b X' D' ⟨fr, k, fs, nx⟩ ds (.slice ao3 ds.length cap3) (.slice ao4 ds.length cap4) from
                ⟨HLO4.out, (HOF.out ()).1, HO.out.2.2.1, HO.out.2.1, rfl, rfl, rfl, HO.out.2.2.2.1, by have := HO.out.2.2.2.2; omega, HG4.out, HW4.out, by have := (HOF.out ()).2.1; simp at this; omega,
                  fun d hd => by
                    rcases (HOF.out ()).2.2.1 d hd with h | h
                    · simp at h
                    · simp at h
                      omega⟩)
              clear HLO3 HD3 HB4 HLO4 HG4 HW4 HSEC3 HSEC HOF HO HB1
              go_wp2_with fail
              go_loopw [16, 17, 22, 23, 24] (fun lv got want used i wr => ∃ (m bb : Nat) (Yr : List Nat) (Dr : DM) (ln : Nat) (dr : List (List Chg)), m ≤ na ∧ lv = .pointer (some ⟨bb, 0, none⟩) ∧ used = .int .i64 (ln : Int) ∧ i = .int .i64 (m : Int) ∧
                Hid (LS w wr N fr k fs m db bb Yr Dr ⟨fr, k, fs, ln⟩ dr got want)) (fun _ _ _ _ i _ => na + 1 - (intOf i).toNat)
              case atStart => exact ⟨0, b, X', D', nx, ds, Nat.zero_le _, rfl, rfl, rfl, HLS⟩
              case round =>
                clear HLS
                obtain ⟨m, bb, Yr, Dr, ln, dr, hm, rfl, rfl, rfl, HLS⟩ := hrel
                have m0 : (0 : Int) ≤ (m : Int) := by omega
                have m1 : (m : Int) ≤ (na : Int) := by omega
                obtain ⟨aog, cg, rfl, -⟩ := HLS.out.got.form
                obtain ⟨aow2, cw2, rfl, -⟩ := HLS.out.want.form
                have hln : ln ≤ k := HLS.out.of_.next_le
                have hdl := HLS.out.dl
                have ln0 : (0 : Int) ≤ (ln : Int) := by omega
                have ln1 : (ln : Int) ≤ (k : Int) := by omega
                have kk0 : (0 : Int) ≤ (k : Int) := by omega
                have kk1 : (k : Int) ≤ 40 := by omega
                have hw1 : IntKind.i64.wrap ((fs : Int) + (k : Int)) = (fs : Int) + (k : Int) := IntWalk.i64_in _ (by have := HFS.out (); omega)
                have hsame := same_deeds _ _ _ _ dr dr wr HLS.out.got HLS.out.want (by omega) (fun d hd => by have := HLS.out.el d hd; omega)
                rw [(sameD_eq _ _).2 rfl] at hsame
                go_wp2_with fail
                refine hsame.mono ?_
                rintro e w5 ⟨rfl, hb5⟩
                have HLS5 := Lib.hid (HLS.out.later hb5)
                clear hsame HLS hb5
                go_wp2_with fail
                have hrm := room_any bb db ⟨fr, k, fs, ln⟩ w5 HLS5.out.o.l (show k ≤ 1000 by omega) (show ln ≤ 1000 by omega)
                simp only at hrm
                refine hrm.mono ?_
                clear hrm
                rintro e w6 ⟨rfl, nq6, rfl⟩
                have HLS6 := Lib.hid (HLS5.out.later (below_drewN (Below.refl _ w5) nq6))
                generalize w5.drewN nq6 = w6 at *
                clear HLS5
                go_wp2_with fail
                have hnx := next_any bb db ⟨fr, k, fs, ln⟩ w6 HLS6.out.o.l (show k ≤ 1000 by omega) (show fs < 1073741824 by have := HFS.out (); omega)
                simp only at hnx
                refine hnx.mono ?_
                clear hnx
                rintro e w7 ⟨rfl, nq7, rfl⟩
                have HLS7 := Lib.hid (HLS6.out.later (below_drewN (Below.refl _ w6) nq7))
                generalize w6.drewN nq7 = w7 at *
                clear HLS6
                by_cases hmn : m = na
                · subst hmn
                  go_wp2_with fail
                  go_ret
                  exact Ret.of rfl HLS7.out.o.o.below
                have hmn' : ¬ (m : Int) = (na : Int) := by omega
                have hmb : ((m : Int) == (na : Int)) = false := by simpa using hmn'
                have m2 : (m : Int) < (na : Int) := by omega
                obtain ⟨x, hx⟩ : ∃ x, acts[m]? = some x := ⟨_, List.getElem?_eq_getElem (by rw [← HNA.out]; omega)⟩
                obtain ⟨ba, off, xo, xn, xc, rfl, hx2, hxn1, hxn2, hxk, hcells⟩ := HGET.out m x hx
                obtain ⟨c0, c1, c2, c3, c4, c5⟩ := hcells w7 HLS7.out.o.o.below
                have hmem := List.mem_of_getElem? hx
                have hchg := HACT.out.changes x hmem
                have hd16 : x.1.changes.length ≤ 16 := by
                  have h := HLT.out ()
                  rw [lightActs, Bool.and_eq_true, List.all_eq_true] at h
                  have h2 := h.2 x hmem
                  rw [lightAct, Bool.and_eq_true, lightChanges, Bool.and_eq_true, decide_eq_true_eq] at h2
                  have := h2.2
                  rw [Bool.and_eq_true, decide_eq_true_eq] at this
                  omega
                obtain ⟨⟨kind, xs, xt, an, ak, d⟩, xv⟩ := x
                simp only at hx2 c0 c1 c2 c3 c4 c5 hchg hd16
                subst hx2
                obtain rfl : xn = d.length := by
                  obtain ⟨ao', cap', he, -⟩ := hchg.form
                  cases he
                  rfl
                have HV := Lib.hid (show ChgP (fun k => k ∉ bb :: Yr) w7 (.slice xo d.length xc) d from ((ChgP.of_at hchg).mono (S' := fun k => k ∉ bb :: Yr) (fun k' hk' _ hm' => by have := HLS7.out.o.mem k' hm'; omega)).later HLS7.out.o.o.below)
                obtain ⟨nd, hnd⟩ : ∃ nd, nd = d.length := ⟨_, rfl⟩
                rw [← hnd] at HV hd16 c5
                have HND := Lib.hid hnd
                have d0 : (0 : Int) ≤ (nd : Int) := by omega
                have d1 : (nd : Int) ≤ 16 := by omega
                clear hx hcells hmem hchg hnd hxn1 hxn2 hxk
                by_cases hkind : (kind.toList == [97, 100, 100]) = true
                case neg =>
                  rw [Bool.not_eq_true] at hkind
                  have HLSA := Lib.hid (HLS7.out.later ((Below.refl _ w7).alloc (Nat.le_refl _) (.cells #[.string kind, .string xs, .string xt, .int .i64 an, .int .u64 (ak : Int), .slice xo nd xc] 38)))
                  have hfit := HLSA.out.of_.fits
                  simp only at hfit
                  go_wp2_with fail
                  have hop := open_any db Yr Dr fr k fs _ HLSA.out.o.o.d (by omega) hfit (by omega) HLSA.out.up.1 HLSA.out.sz (by have := HFS.out (); omega)
                  rw [show scan fs 0 (secs Dr fr k) [] [] 0 = (dr, ln) from HLSA.out.of_.scn] at hop
                  refine hop.mono ?_
                  clear hop
                  rintro e w8 ⟨v8, rfl, ho8⟩
                  obtain ⟨b8, vd8, rfl, hge8, hLO8, hd8, hbl8⟩ := LogOne.opened (L := ⟨fr, k, fs, ln⟩) HLSA.out.o.o ho8
                  obtain ⟨ao8, cap8, rfl, -⟩ := hd8.form
                  have HLS8 := Lib.hid (show LS w w8 N fr k fs (m + 1) db b8 Yr Dr ⟨fr, k, fs, ln⟩ dr (.slice ao8 dr.length cap8) (.slice aow2 dr.length cw2) from
                    { HLSA.out.next with
                      o := hLO8
                      got := hd8
                      want := (HLSA.out.want.mono (S' := fun k => k ∉ b8 :: Yr) (fun k' hk' h hm => by
                        rcases List.mem_cons.1 hm with rfl | hm
                        · omega
                        · exact h (by simp [hm]))).later hbl8 })
                  clear ho8 hLO8 hd8 hbl8 HLSA HLS7 HV
                  go_wp2_with fail
                  exact ⟨⟨m + 1, b8, Yr, Dr, ln, dr, by omega, rfl, rfl, by go_num, HLS8⟩, by simp [intOf]; omega⟩
                by_cases h12 : 12 < nd
                · have h12' : (12 : Int) < (nd : Int) := by omega
                  have HLSA := Lib.hid (HLS7.out.later ((Below.refl _ w7).alloc (Nat.le_refl _) (.cells #[.string kind, .string xs, .string xt, .int .i64 an, .int .u64 (ak : Int), .slice xo nd xc] 38)))
                  have HVA := Lib.hid (HV.out.later ((Below.refl _ w7).alloc (Nat.le_refl _) (.cells #[.string kind, .string xs, .string xt, .int .i64 an, .int .u64 (ak : Int), .slice xo nd xc] 38)))
                  have HBLK := Lib.hid (heap_alloc_new w7 (.cells #[.string kind, .string xs, .string xt, .int .i64 an, .int .u64 (ak : Int), .slice xo nd xc] 38))
                  have l5 := cell_of HBLK.out 5
                  simp only [List.getElem?_toArray, List.getElem?_cons_zero, List.getElem?_cons_succ] at l5
                  go_wp2_with fail
                  clear c0 c1 c2 c3 c4 c5
                  have hnX : w7.heap.size ∉ bb :: Yr := fun hm => by
                    rcases List.mem_cons.1 hm with h | hm
                    · have := HLS7.out.o.lt
                      omega
                    · exact Nat.lt_irrefl _ (HLS7.out.o.o.d.lt _ hm)
                  have HNX := Lib.hid hnX
                  clear HLS7 HV hnX
                  generalize w7.alloc (.cells #[.string kind, .string xs, .string xt, .int .i64 an, .int .u64 (ak : Int), .slice xo nd xc] 38) = wA at *
                  generalize w7.heap.size = bA at *
                  have HAF2 := Lib.hid (fun (_ : Unit) => show addF ⟨fr, k, fs, ln⟩ d = 2 by rw [addF, if_pos (by rw [← HND.out]; exact h12)])
                  go_loopw [26, 27] (fun f i wr2 => i = .int .i64 0 ∧ f = .int .i64 2 ∧ wr2 = wA) (fun _ _ _ => 0)
                  case atStart => exact ⟨rfl, rfl, rfl⟩
                  case round =>
                    obtain ⟨rfl, rfl, rfl⟩ := hrel
                    have HLSX := HLSA
                    have HVX := HVA
                    clear HLSA HVA
                    have hfit := HLSX.out.of_.fits
                    have hwt := HLSX.out.wait
                    simp only at hfit
                    go_wp2_with fail
                    refine (add_upW HLSX.out.o HLSX.out.of_ HLSX.out.sz HLSX.out.up d (show fr + k ≤ 130 by rw [HLSX.out.len] at hfit; omega) (show fs < 1073741824 by have := HFS.out (); omega) (by rw [← HND.out]; omega) (by omega) _ HVX.out).mono ?_
                    rintro e w9 ⟨rfl, Y9, D9, L9, ds9, q1, q2, q3, q4, q5, q6, q7, q8, q9⟩
                    have HQ := Lib.hid (fun (_ : Unit) => And.intro q1 (And.intro q2 (And.intro q3 (And.intro q4 (And.intro q5 (And.intro q6 (And.intro q7 q8)))))))
                    have HQ9 := Lib.hid (fun (_ : Unit) => q9)
                    have HG9 := Lib.hid (HLSX.out.got.moved q8 q7)
                    have HW9 := Lib.hid (HLSX.out.want.moved q8 q7)
                    have HV9 := Lib.hid (HVX.out.moved q8 q7)
                    have HX9 := Lib.hid (fun (_ : Unit) => q8)
                    clear q1 q2 q3 q4 q5 q6 q7 q8 q9
                    rw [HAF2.out ()]
                    go_wp2_with fail
                    have hsm : Calls Try.prog 15 #[errV 2, .int .i64 2] w9 (Ret (.bool true) fun w' => w9 = w') := by simpa using same_any 2 2 w9
                    refine hsm.mono ?_
                    rintro e w10 ⟨rfl, rfl⟩
                    clear hsm
                    obtain ⟨rfl, rfl⟩ : L9 = ⟨fr, k, fs, ln⟩ ∧ ds9 = dr := by
                      rcases HQ9.out () with ⟨h, -⟩ | ⟨-, h1, h2⟩
                      · rw [HAF2.out ()] at h
                        exact absurd h (by decide)
                      · exact ⟨h1, h2⟩
                    have HLS9 := Lib.hid (show LS w w9 N fr k fs (m + 1) db bb Y9 D9 ⟨fr, k, fs, ln⟩ ds9 (.slice aog ds9.length cg) (.slice aow2 ds9.length cw2) from
                      { HLSX.out.next with
                        o := (HQ.out ()).2.2.2.2.2.1
                        of_ := (HQ.out ()).2.1
                        sz := (HQ.out ()).2.2.1
                        up := (HQ.out ()).1
                        len := (HQ.out ()).2.2.2.1.trans HLSX.out.len
                        wait := by have := (HQ.out ()).2.2.2.2.1; rw [← HND.out] at this; omega
                        got := HG9.out
                        want := HW9.out })
                    clear HG9 HW9 HV9 HX9 HQ HQ9 HLSX HVX hwt hfit
                    go_wp2_with fail
                    exact ⟨⟨m + 1, bb, Y9, D9, ln, ds9, by omega, rfl, rfl, by go_num, HLS9⟩, by simp [intOf]; omega⟩
                have h12' : (nd : Int) ≤ 12 := by omega
                by_cases hroom : k < ln + (nd + 1)
                · have hroom' : (k : Int) - (ln : Int) < (nd : Int) + 1 := by omega
                  have HLSA := Lib.hid (HLS7.out.later ((Below.refl _ w7).alloc (Nat.le_refl _) (.cells #[.string kind, .string xs, .string xt, .int .i64 an, .int .u64 (ak : Int), .slice xo nd xc] 38)))
                  have HVA := Lib.hid (HV.out.later ((Below.refl _ w7).alloc (Nat.le_refl _) (.cells #[.string kind, .string xs, .string xt, .int .i64 an, .int .u64 (ak : Int), .slice xo nd xc] 38)))
                  have HBLK := Lib.hid (heap_alloc_new w7 (.cells #[.string kind, .string xs, .string xt, .int .i64 an, .int .u64 (ak : Int), .slice xo nd xc] 38))
                  have l5 := cell_of HBLK.out 5
                  simp only [List.getElem?_toArray, List.getElem?_cons_zero, List.getElem?_cons_succ] at l5
                  go_wp2_with fail
                  clear c0 c1 c2 c3 c4 c5
                  have hnX : w7.heap.size ∉ bb :: Yr := fun hm => by
                    rcases List.mem_cons.1 hm with h | hm
                    · have := HLS7.out.o.lt
                      omega
                    · exact Nat.lt_irrefl _ (HLS7.out.o.o.d.lt _ hm)
                  have HNX := Lib.hid hnX
                  clear HLS7 HV hnX
                  generalize w7.alloc (.cells #[.string kind, .string xs, .string xt, .int .i64 an, .int .u64 (ak : Int), .slice xo nd xc] 38) = wA at *
                  generalize w7.heap.size = bA at *
                  have HAF2 := Lib.hid (fun (_ : Unit) => show addF ⟨fr, k, fs, ln⟩ d = 9 by rw [addF, if_neg (by rw [← HND.out]; exact h12), if_pos (by rw [← HND.out]; exact hroom)])
                  go_loopw [26, 27] (fun f i wr2 => i = .int .i64 0 ∧ f = .int .i64 9 ∧ wr2 = wA) (fun _ _ _ => 0)
                  case atStart => exact ⟨rfl, rfl, rfl⟩
                  case round =>
                    obtain ⟨rfl, rfl, rfl⟩ := hrel
                    have HLSX := HLSA
                    have HVX := HVA
                    clear HLSA HVA
                    rcases Nat.eq_zero_or_pos nd with z | z
                    · have z' : (nd : Int) ≤ 0 := by omega
                      clear z
                      have hfit := HLSX.out.of_.fits
                      have hwt := HLSX.out.wait
                      simp only at hfit
                      go_wp2_with fail
                      refine (add_upW HLSX.out.o HLSX.out.of_ HLSX.out.sz HLSX.out.up d (show fr + k ≤ 130 by rw [HLSX.out.len] at hfit; omega) (show fs < 1073741824 by have := HFS.out (); omega) (by rw [← HND.out]; omega) (by omega) _ HVX.out).mono ?_
                      rintro e w9 ⟨rfl, Y9, D9, L9, ds9, q1, q2, q3, q4, q5, q6, q7, q8, q9⟩
                      have HQ := Lib.hid (fun (_ : Unit) => And.intro q1 (And.intro q2 (And.intro q3 (And.intro q4 (And.intro q5 (And.intro q6 (And.intro q7 q8)))))))
                      have HQ9 := Lib.hid (fun (_ : Unit) => q9)
                      have HG9 := Lib.hid (HLSX.out.got.moved q8 q7)
                      have HW9 := Lib.hid (HLSX.out.want.moved q8 q7)
                      have HV9 := Lib.hid (HVX.out.moved q8 q7)
                      have HX9 := Lib.hid (fun (_ : Unit) => q8)
                      clear q1 q2 q3 q4 q5 q6 q7 q8 q9
                      rw [HAF2.out ()]
                      go_wp2_with fail
                      have hsm : Calls Try.prog 15 #[errV 9, .int .i64 9] w9 (Ret (.bool true) fun w' => w9 = w') := by simpa using same_any 9 9 w9
                      refine hsm.mono ?_
                      rintro e w10 ⟨rfl, rfl⟩
                      clear hsm
                      obtain ⟨rfl, rfl⟩ : L9 = ⟨fr, k, fs, ln⟩ ∧ ds9 = dr := by
                        rcases HQ9.out () with ⟨h, -⟩ | ⟨-, h1, h2⟩
                        · rw [HAF2.out ()] at h
                          exact absurd h (by decide)
                        · exact ⟨h1, h2⟩
                      have HLS9 := Lib.hid (show LS w w9 N fr k fs (m + 1) db bb Y9 D9 ⟨fr, k, fs, ln⟩ ds9 (.slice aog ds9.length cg) (.slice aow2 ds9.length cw2) from
                        { HLSX.out.next with
                          o := (HQ.out ()).2.2.2.2.2.1
                          of_ := (HQ.out ()).2.1
                          sz := (HQ.out ()).2.2.1
                          up := (HQ.out ()).1
                          len := (HQ.out ()).2.2.2.1.trans HLSX.out.len
                          wait := by have := (HQ.out ()).2.2.2.2.1; rw [← HND.out] at this; omega
                          got := HG9.out
                          want := HW9.out })
                      clear HG9 HW9 HV9 HX9 HQ HQ9 HLSX HVX hwt hfit
                      go_wp2_with fail
                      exact ⟨⟨m + 1, bb, Y9, D9, ln, ds9, by omega, rfl, rfl, by go_num, HLS9⟩, by simp [intOf]; omega⟩
                    · have z' : (0 : Int) < (nd : Int) := by omega
                      clear z
                      have hfit := HLSX.out.of_.fits
                      have hwt := HLSX.out.wait
                      simp only at hfit
                      go_wp2_with fail
                      refine (add_upW HLSX.out.o HLSX.out.of_ HLSX.out.sz HLSX.out.up d (show fr + k ≤ 130 by rw [HLSX.out.len] at hfit; omega) (show fs < 1073741824 by have := HFS.out (); omega) (by rw [← HND.out]; omega) (by omega) _ HVX.out).mono ?_
                      rintro e w9 ⟨rfl, Y9, D9, L9, ds9, q1, q2, q3, q4, q5, q6, q7, q8, q9⟩
                      have HQ := Lib.hid (fun (_ : Unit) => And.intro q1 (And.intro q2 (And.intro q3 (And.intro q4 (And.intro q5 (And.intro q6 (And.intro q7 q8)))))))
                      have HQ9 := Lib.hid (fun (_ : Unit) => q9)
                      have HG9 := Lib.hid (HLSX.out.got.moved q8 q7)
                      have HW9 := Lib.hid (HLSX.out.want.moved q8 q7)
                      have HV9 := Lib.hid (HVX.out.moved q8 q7)
                      have HX9 := Lib.hid (fun (_ : Unit) => q8)
                      clear q1 q2 q3 q4 q5 q6 q7 q8 q9
                      rw [HAF2.out ()]
                      go_wp2_with fail
                      have hsm : Calls Try.prog 15 #[errV 9, .int .i64 9] w9 (Ret (.bool true) fun w' => w9 = w') := by simpa using same_any 9 9 w9
                      refine hsm.mono ?_
                      rintro e w10 ⟨rfl, rfl⟩
                      clear hsm
                      obtain ⟨rfl, rfl⟩ : L9 = ⟨fr, k, fs, ln⟩ ∧ ds9 = dr := by
                        rcases HQ9.out () with ⟨h, -⟩ | ⟨-, h1, h2⟩
                        · rw [HAF2.out ()] at h
                          exact absurd h (by decide)
                        · exact ⟨h1, h2⟩
                      have HLS9 := Lib.hid (show LS w w9 N fr k fs (m + 1) db bb Y9 D9 ⟨fr, k, fs, ln⟩ ds9 (.slice aog ds9.length cg) (.slice aow2 ds9.length cw2) from
                        { HLSX.out.next with
                          o := (HQ.out ()).2.2.2.2.2.1
                          of_ := (HQ.out ()).2.1
                          sz := (HQ.out ()).2.2.1
                          up := (HQ.out ()).1
                          len := (HQ.out ()).2.2.2.1.trans HLSX.out.len
                          wait := by have := (HQ.out ()).2.2.2.2.1; rw [← HND.out] at this; omega
                          got := HG9.out
                          want := HW9.out })
                      clear HG9 HW9 HV9 HX9 HQ HQ9 HLSX HVX hwt hfit
                      go_wp2_with fail
                      exact ⟨⟨m + 1, bb, Y9, D9, ln, ds9, by omega, rfl, rfl, by go_num, HLS9⟩, by simp [intOf]; omega⟩
                have hroom' : (nd : Int) + 1 ≤ (k : Int) - (ln : Int) := by omega
                have HLSA := Lib.hid (HLS7.out.later ((Below.refl _ w7).alloc (Nat.le_refl _) (.cells #[.string kind, .string xs, .string xt, .int .i64 an, .int .u64 (ak : Int), .slice xo nd xc] 38)))
                have HVA := Lib.hid (HV.out.later ((Below.refl _ w7).alloc (Nat.le_refl _) (.cells #[.string kind, .string xs, .string xt, .int .i64 an, .int .u64 (ak : Int), .slice xo nd xc] 38)))
                have HBLK := Lib.hid (heap_alloc_new w7 (.cells #[.string kind, .string xs, .string xt, .int .i64 an, .int .u64 (ak : Int), .slice xo nd xc] 38))
                have l5 := cell_of HBLK.out 5
                simp only [List.getElem?_toArray, List.getElem?_cons_zero, List.getElem?_cons_succ] at l5
                go_wp2_with fail
                clear c0 c1 c2 c3 c4 c5
                have hnX : w7.heap.size ∉ bb :: Yr := fun hm => by
                  rcases List.mem_cons.1 hm with h | hm
                  · have := HLS7.out.o.lt
                    omega
                  · exact Nat.lt_irrefl _ (HLS7.out.o.o.d.lt _ hm)
                have HNX := Lib.hid hnX
                clear HLS7 HV hnX
                generalize w7.alloc (.cells #[.string kind, .string xs, .string xt, .int .i64 an, .int .u64 (ak : Int), .slice xo nd xc] 38) = wA at *
                generalize w7.heap.size = bA at *
                have HADD := Lib.hid (fun (_ : Unit) => show addF ⟨fr, k, fs, ln⟩ d = if (0 : Nat) ≠ 0 then 0 else firstFault (d.drop 0) by rw [addF, if_neg (by rw [← HND.out]; exact h12), if_neg (by rw [← HND.out]; exact hroom)]; rfl)
                go_loopw [26, 27] (fun f i wr2 => ∃ (jj fv : Nat), jj ≤ nd ∧ i = .int .i64 (jj : Int) ∧ f = .int .i64 (fv : Int) ∧ Hid (Below wA.heap.size wA wr2) ∧ Hid (∀ _ : Unit, addF ⟨fr, k, fs, ln⟩ d = if fv ≠ 0 then fv else firstFault (d.drop jj))) (fun _ i _ => nd - (intOf i).toNat)
                case atStart => exact ⟨0, 0, Nat.zero_le _, rfl, rfl, Below.refl _ _, HADD.out⟩
                case round =>
                  clear HADD l5
                  obtain ⟨jj, fv, hjj, rfl, rfl, HBW, HAF⟩ := hrel
                  have j0 : (0 : Int) ≤ (jj : Int) := by omega
                  have l5 := cell_of ((HBW.out.block _ (lt_of_heap HBLK.out)).trans HBLK.out) 5
                  simp only [List.getElem?_toArray, List.getElem?_cons_zero, List.getElem?_cons_succ] at l5
                  by_cases hlt : jj < nd
                  · have j1 : (jj : Int) < (nd : Int) := by omega
                    by_cases hfv : fv = 0
                    · subst hfv
                      obtain ⟨⟨ck, cv, cg3⟩, hc⟩ : ∃ c, d[jj]? = some c := ⟨_, List.getElem?_eq_getElem (by rw [← HND.out]; exact hlt)⟩
                      obtain ⟨b1, o1, rfl, d0c, d1c, d2c⟩ := HVA.out.elem jj _ hc
                      have e0 := (HBW.out.cell (World.block_lt_of_cell? wA _ d0c)).trans d0c
                      have e1 := (HBW.out.cell (World.block_lt_of_cell? wA _ d1c)).trans d1c
                      have e2 := (HBW.out.cell (World.block_lt_of_cell? wA _ d2c)).trans d2c
                      have HFF := Lib.hid (fun (_ : Unit) => show firstFault (d.drop jj) = if faultOf ⟨ck, cv, cg3⟩ = 0 then firstFault (d.drop (jj + 1)) else faultOf ⟨ck, cv, cg3⟩ by
                        obtain ⟨q1, q2⟩ := List.getElem?_eq_some_iff.1 hc
                        rw [List.drop_eq_getElem_cons q1, q2, firstFault])
                      clear hc d0c d1c d2c
                      go_wp2_with fail
                      refine (fault_any ck cv cg3 _).mono ?_
                      rintro e w9 ⟨rfl, hB9⟩
                      have HB9 := Lib.hid (HBW.out.trans (hB9.mono HBW.out.size))
                      clear hB9 e0 e1 e2
                      have HAF3 := Lib.hid (fun (_ : Unit) => show addF ⟨fr, k, fs, ln⟩ d = if faultOf ⟨ck, cv, cg3⟩ ≠ 0 then faultOf ⟨ck, cv, cg3⟩ else firstFault (d.drop (jj + 1)) by
                        rw [HAF.out (), if_neg (by simp), HFF.out ()]
                        by_cases q : faultOf ⟨ck, cv, cg3⟩ = 0
                        · rw [if_pos q, if_neg (by simpa using q)]
                        · rw [if_neg q, if_pos q])
                      generalize faultOf ⟨ck, cv, cg3⟩ = fm at *
                      unfold errN
                      clear HAF HFF l5
                      go_wp2_with fail
                      exact ⟨⟨jj + 1, fm, by omega, by go_num, rfl, HB9, HAF3⟩, by simp [intOf]; omega⟩
                    · have hfv' : ¬ (fv : Int) = 0 := by omega
                      have HAF2 := Lib.hid (fun (_ : Unit) => show addF ⟨fr, k, fs, ln⟩ d = fv by rw [HAF.out (), if_pos hfv])
                      have HFV := Lib.hid hfv
                      have HLSX := Lib.hid (HLSA.out.later HBW.out)
                      have HVX := Lib.hid (HVA.out.later HBW.out)
                      clear HLSA HVA
                      have hfit := HLSX.out.of_.fits
                      have hwt := HLSX.out.wait
                      simp only at hfit
                      go_wp2_with fail
                      refine (add_upW HLSX.out.o HLSX.out.of_ HLSX.out.sz HLSX.out.up d (show fr + k ≤ 130 by rw [HLSX.out.len] at hfit; omega) (show fs < 1073741824 by have := HFS.out (); omega) (by rw [← HND.out]; omega) (by omega) _ HVX.out).mono ?_
                      rintro e w9 ⟨rfl, Y9, D9, L9, ds9, q1, q2, q3, q4, q5, q6, q7, q8, q9⟩
                      have HQ := Lib.hid (fun (_ : Unit) => And.intro q1 (And.intro q2 (And.intro q3 (And.intro q4 (And.intro q5 (And.intro q6 (And.intro q7 q8)))))))
                      have HQ9 := Lib.hid (fun (_ : Unit) => q9)
                      have HG9 := Lib.hid (HLSX.out.got.moved q8 q7)
                      have HW9 := Lib.hid (HLSX.out.want.moved q8 q7)
                      have HV9 := Lib.hid (HVX.out.moved q8 q7)
                      have HX9 := Lib.hid (fun (_ : Unit) => q8)
                      clear q1 q2 q3 q4 q5 q6 q7 q8 q9
                      rw [HAF2.out ()]
                      go_wp2_with fail
                      have hsm : Calls Try.prog 15 #[errV fv, .int .i64 (fv : Int)] w9 (Ret (.bool true) fun w' => w9 = w') := by simpa using same_any fv fv w9
                      refine hsm.mono ?_
                      rintro e w10 ⟨rfl, rfl⟩
                      clear hsm
                      obtain ⟨rfl, rfl⟩ : L9 = ⟨fr, k, fs, ln⟩ ∧ ds9 = dr := by
                        rcases HQ9.out () with ⟨h, -⟩ | ⟨-, h1, h2⟩
                        · rw [HAF2.out ()] at h
                          exact absurd h HFV.out
                        · exact ⟨h1, h2⟩
                      have HLS9 := Lib.hid (show LS w w9 N fr k fs (m + 1) db bb Y9 D9 ⟨fr, k, fs, ln⟩ ds9 (.slice aog ds9.length cg) (.slice aow2 ds9.length cw2) from
                        { HLSX.out.next with
                          o := (HQ.out ()).2.2.2.2.2.1
                          of_ := (HQ.out ()).2.1
                          sz := (HQ.out ()).2.2.1
                          up := (HQ.out ()).1
                          len := (HQ.out ()).2.2.2.1.trans HLSX.out.len
                          wait := by have := (HQ.out ()).2.2.2.2.1; rw [← HND.out] at this; omega
                          got := HG9.out
                          want := HW9.out })
                      clear HG9 HW9 HV9 HX9 HQ HQ9 HLSX HVX hwt hfit
                      go_wp2_with fail
                      exact ⟨⟨m + 1, bb, Y9, D9, ln, ds9, by omega, rfl, rfl, by go_num, HLS9⟩, by simp [intOf]; omega⟩
                  · obtain rfl : nd = jj := by omega
                    have HAF2 := Lib.hid (fun (_ : Unit) => show addF ⟨fr, k, fs, ln⟩ d = fv by
                      rw [HAF.out (), List.drop_of_length_le (by rw [HND.out]; exact Nat.le_refl _)]
                      split
                      · rfl
                      · rename_i h
                        simp only [ne_eq, Decidable.not_not] at h
                        rw [h]
                        rfl)
                    by_cases hfv : fv = 0
                    · subst hfv
                      have HLSX := Lib.hid (HLSA.out.later HBW.out)
                      have HVX := Lib.hid (HVA.out.later HBW.out)
                      clear HLSA HVA
                      have hfit := HLSX.out.of_.fits
                      have hwt := HLSX.out.wait
                      simp only at hfit
                      go_wp2_with fail
                      refine (add_upW HLSX.out.o HLSX.out.of_ HLSX.out.sz HLSX.out.up d (show fr + k ≤ 130 by rw [HLSX.out.len] at hfit; omega) (show fs < 1073741824 by have := HFS.out (); omega) (by rw [← HND.out]; omega) (by omega) _ HVX.out).mono ?_
                      rintro e w9 ⟨rfl, Y9, D9, L9, ds9, q1, q2, q3, q4, q5, q6, q7, q8, q9⟩
                      have HQ := Lib.hid (fun (_ : Unit) => And.intro q1 (And.intro q2 (And.intro q3 (And.intro q4 (And.intro q5 (And.intro q6 (And.intro q7 q8)))))))
                      have HQ9 := Lib.hid (fun (_ : Unit) => q9)
                      have HG9 := Lib.hid (HLSX.out.got.moved q8 q7)
                      have HW9 := Lib.hid (HLSX.out.want.moved q8 q7)
                      have HV9 := Lib.hid (HVX.out.moved q8 q7)
                      have HX9 := Lib.hid (fun (_ : Unit) => q8)
                      clear q1 q2 q3 q4 q5 q6 q7 q8 q9
                      rw [HAF2.out ()]
                      go_wp2_with fail
                      have hsm : Calls Try.prog 15 #[errV 0, .int .i64 0] w9 (Ret (.bool true) fun w' => w9 = w') := by simpa using same_any 0 0 w9
                      refine hsm.mono ?_
                      rintro e w10 ⟨rfl, rfl⟩
                      clear hsm
                      have HF52 := Lib.hid (fun (_ : Unit) => show L9 = (⟨fr, k, fs, ln⟩ : LM).more d ∧ ds9 = dr ++ [d] by
                        rcases HQ9.out () with ⟨-, h1, h2⟩ | ⟨h, -, -⟩
                        · exact ⟨h1, h2⟩
                        · exact absurd (HAF2.out ()) h)
                      obtain ⟨aow3, cw3, vs, he, hwm, hvl, hsrc, hone, hel⟩ := HW9.out.row
                      cases he
                      have HSRC := Lib.hid hsrc
                      have HEL3 := Lib.hid hel
                      have HVL := Lib.hid hvl
                      have HONE := Lib.hid hone
                      have l9 := ((HX9.out ()).cell (a := ⟨bA, 5, none⟩) l5 HNX.out)
                      have HL9 := Lib.hid l9
                      clear hsrc hel hvl hone hwm l5
                      go_wp2_with fail
                      refine wp_region_fork (fun w2 => Below w9.heap.size w9 w2) 261 [0, 2, 3] [(1, [([], [4], true), ([], [5, 6], false)]), (4, [([], [1], true), ([], [5, 6], false)])] (by kernel_rfl) (by kernel_rfl) ?_
                      apply wpFork_mk
                      case hT => exact (Below.refl _ _).drew
                      case hn => exact Nat.le_refl _
                      case hq =>
                        intro w2 hT
                        have c4 := (hT.cell (World.block_lt_of_cell? w9 _ HL9.out)).trans HL9.out
                        simp only [picked, List.filterMap_cons, List.filterMap_nil, List.getElem?_cons_zero, List.getElem?_cons_succ]
                        repeat still_step
                        exact wpStill_nil rfl
                      simp only [wpForks, picked, List.filterMap_cons, List.filterMap_nil, List.getElem?_cons_zero, List.getElem?_cons_succ]
                      clear l9
                      refine ⟨?_, ?_, trivial⟩
                      · refine wpList_append_any rfl (.const (.slice none 0 0)) (.tmp 248) 78 rfl w9.heap.size 36 i36 _ 1 24 Try.underlying78 gi gz0 gz1 gz2 rfl (by decide) (.slice none 0 0) 0 [] rfl (World.ownsRow_nil _ _ _ _) aow2 dr.length cw2 vs rfl ?_ ?_ HONE.out dr.length (Nat.zero_add _) (by unfold maxLen; omega) (by omega) ?_ ?_
                        · rw [Nat.mul_one]
                          exact HVL.out
                        · exact HSRC.out
                        · exact Nat.le_refl _
                        intro v1 w4 ho hg hat
                        have hB4 : Below w9.heap.size w9 w4 := (Below.refl _ w9).drew.grown hg (Nat.le_refl _) (fun k hk => by cases hk)
                        have HO4 := Lib.hid (show w4.ownsRow w9.heap.size 36 1 v1 dr.length vs from ho)
                        have HB4 := Lib.hid hB4
                        refine OnlyNormal.mk ⟨hB4, ?_⟩
                        clear ho hg hat hB4
                        apply wpStages_seqkeep
                        simp only [picked, List.filterMap_cons, List.filterMap_nil, List.getElem?_cons_zero, List.getElem?_cons_succ]
                        go_wp2_with fail
                        have hB5 := HB4.out.alloc HB4.out.size (.cells #[.slice xo nd xc] 36)
                        refine OnlyNormal.mk ⟨hB5, ?_⟩
                        apply wpStages_seq
                        simp only [picked, List.filterMap_cons, List.filterMap_nil, List.getElem?_cons_zero, List.getElem?_cons_succ]
                        refine wpList_append_any rfl (.tmp 249) (.tmp 252) 78 rfl w9.heap.size 36 i36 _ 1 24 Try.underlying78 gi gz0 gz1 gz2 rfl (by decide) v1 dr.length vs rfl (World.ownsRow.alloc (w := w4) HO4.out _) (some ⟨w4.heap.size, 0, none⟩) 1 1 [.slice xo nd xc] rfl rfl ?_ (by simp [Value.oneCell']) (dr.length + 1) rfl (by unfold maxLen; omega) (by omega) ?_ ?_
                        · exact fun _ => ⟨_, rfl, fun j u hu => by
                            rw [addr_add]
                            exact (cell_of (heap_alloc_new w4 _) j).trans (by simpa using hu)⟩
                        · exact hB5.size
                        intro v2 w6 ho hg hat
                        have HB6 := Lib.hid (hB5.grown hg hB5.size (fun k hk => (World.ownsRow.lt HO4.out k hk).1))
                        obtain ⟨ao6, cap6, rfl⟩ := owns_form ho
                        have hlt9 : ∀ k ∈ bb :: Y9, k < w9.heap.size := fun k hk => by
                          rcases List.mem_cons.1 hk with rfl | hk
                          · exact ((HQ.out ()).2.2.2.2.2.1).lt
                          · exact ((HQ.out ()).2.2.2.2.2.1).o.d.lt k hk
                        have HW6 := Lib.hid (snoc_deeds hlt9 ho rfl HVL.out HEL3.out HV9.out HB6.out)
                        have HL6 := Lib.hid ((HB6.out.cell (World.block_lt_of_cell? w9 _ HL9.out)).trans HL9.out)
                        obtain ⟨rfl, rfl⟩ := HF52.out ()
                        have HLS6 := Lib.hid (show LS w w6 N fr k fs (m + 1) db bb Y9 D9 ⟨fr, k, fs, ln + d.length + 1⟩ (dr ++ [d]) (.slice ao6 (dr.length + 1) cap6) (.slice ao6 (dr.length + 1) cap6) from
                          { o := (HQ.out ()).2.2.2.2.2.1.later HB6.out
                            of_ := (HQ.out ()).2.1
                            sz := (HQ.out ()).2.2.1
                            up := (HQ.out ()).1
                            fr := rfl
                            many := rfl
                            first := rfl
                            len := (HQ.out ()).2.2.2.1.trans HLSX.out.len
                            wait := by have := (HQ.out ()).2.2.2.2.1; rw [← HND.out] at this; omega
                            got := HW6.out
                            want := HW6.out
                            dl := by simp; omega
                            el := fun x hx => by
                              rcases List.mem_append.1 hx with hx | hx
                              · exact HLSX.out.el x hx
                              · obtain rfl := List.mem_singleton.1 hx
                                rw [← HND.out]
                                omega })
                        rw [← HND.out] at HLS6
                        have l6 := HL6.out
                        clear ho hg hat hlt9 HB4 HO4 HQ HQ9 HG9 HW9 HV9 HX9 HF52
                        go_wp2_with fail
                        refine OnlyNormal.mk (wpStages_nil ?_)
                        have e9 : IntKind.i64.wrap ((ln : Int) + (nd : Int)) = (ln : Int) + (nd : Int) := IntWalk.i64_in _ (by omega)
                        go_wp2_with fail
                        exact ⟨⟨m + 1, bb, Y9, D9, ln + nd + 1, dr ++ [d], by omega, rfl, by go_num, by go_num, HLS6⟩, by simp [intOf]; omega⟩
                      · go_wp2_with fail
                        have hB5 : Below w9.heap.size w9 (w9.alloc (.cells #[.slice xo nd xc] 36)).drew := ((Below.refl _ w9).alloc (Nat.le_refl _) _).drew
                        have hcell := fun j => cell_of (w := (w9.alloc (.cells #[.slice xo nd xc] 36)).drew) (heap_alloc_new w9 (.cells #[.slice xo nd xc] 36)) j
                        have HCELL := Lib.hid hcell
                        refine OnlyNormal.mk ⟨hB5, ?_⟩
                        have HB5 := Lib.hid hB5
                        clear hB5 hcell
                        generalize hw5 : (w9.alloc (.cells #[.slice xo nd xc] 36)).drew = w5 at *
                        clear hw5
                        apply wpStages_seqkeep
                        simp only [picked, List.filterMap_cons, List.filterMap_nil, List.getElem?_cons_zero, List.getElem?_cons_succ]
                        refine wpList_append_any rfl (.const (.slice none 0 0)) (.tmp 248) 78 rfl w9.heap.size 36 i36 _ 1 24 Try.underlying78 gi gz0 gz1 gz2 rfl (by decide) (.slice none 0 0) 0 [] rfl (World.ownsRow_nil _ _ _ _) aow2 dr.length cw2 vs rfl ?_ ?_ HONE.out dr.length (Nat.zero_add _) (by unfold maxLen; omega) (by omega) ?_ ?_
                        · rw [Nat.mul_one]
                          exact HVL.out
                        · intro h0
                          obtain ⟨ad, e1, e2⟩ := HSRC.out h0
                          exact ⟨ad, e1, fun j u hu => (HB5.out.cell (World.block_lt_of_cell? w9 _ (e2 j u hu))).trans (e2 j u hu)⟩
                        · exact HB5.out.size
                        intro v1 w4 ho hg hat
                        have hB4 : Below w9.heap.size w9 w4 := HB5.out.grown hg HB5.out.size (fun k hk => by cases hk)
                        have HO4 := Lib.hid (show w4.ownsRow w9.heap.size 36 1 v1 dr.length vs from ho)
                        have HB4 := Lib.hid hB4
                        have hc4 : w4.cell? ⟨w9.heap.size, 0, none⟩ = some (.slice xo nd xc) := by
                          have h1 : w5.cell? ⟨w9.heap.size, 0, none⟩ = some (.slice xo nd xc) := HCELL.out 0
                          exact ((Frame.refl [] w5).grown hg (fun k hk => by cases hk)).cell h1 (by simp)
                        have HC4 := Lib.hid hc4
                        refine OnlyNormal.mk ⟨hB4, ?_⟩
                        clear ho hg hat hB4 hc4
                        apply wpStages_seq
                        simp only [picked, List.filterMap_cons, List.filterMap_nil, List.getElem?_cons_zero, List.getElem?_cons_succ]
                        refine wpList_append_any rfl (.tmp 249) (.tmp 252) 78 rfl w9.heap.size 36 i36 _ 1 24 Try.underlying78 gi gz0 gz1 gz2 rfl (by decide) v1 dr.length vs rfl HO4.out (some ⟨w9.heap.size, 0, none⟩) 1 1 [.slice xo nd xc] rfl rfl ?_ (by simp [Value.oneCell']) (dr.length + 1) rfl (by unfold maxLen; omega) (by omega) ?_ ?_
                        · exact fun _ => ⟨_, rfl, fun j u hu => by
                            rw [addr_add]
                            match j, hu with
                            | 0, hu => cases hu; exact HC4.out⟩
                        · exact HB4.out.size
                        intro v2 w6 ho hg hat
                        have HB6 := Lib.hid (HB4.out.grown hg HB4.out.size (fun k hk => (World.ownsRow.lt HO4.out k hk).1))
                        obtain ⟨ao6, cap6, rfl⟩ := owns_form ho
                        have hlt9 : ∀ k ∈ bb :: Y9, k < w9.heap.size := fun k hk => by
                          rcases List.mem_cons.1 hk with rfl | hk
                          · exact ((HQ.out ()).2.2.2.2.2.1).lt
                          · exact ((HQ.out ()).2.2.2.2.2.1).o.d.lt k hk
                        have HW6 := Lib.hid (snoc_deeds hlt9 ho rfl HVL.out HEL3.out HV9.out HB6.out)
                        have HL6 := Lib.hid ((HB6.out.cell (World.block_lt_of_cell? w9 _ HL9.out)).trans HL9.out)
                        obtain ⟨rfl, rfl⟩ := HF52.out ()
                        have HLS6 := Lib.hid (show LS w w6 N fr k fs (m + 1) db bb Y9 D9 ⟨fr, k, fs, ln + d.length + 1⟩ (dr ++ [d]) (.slice ao6 (dr.length + 1) cap6) (.slice ao6 (dr.length + 1) cap6) from
                          { o := (HQ.out ()).2.2.2.2.2.1.later HB6.out
                            of_ := (HQ.out ()).2.1
                            sz := (HQ.out ()).2.2.1
                            up := (HQ.out ()).1
                            fr := rfl
                            many := rfl
                            first := rfl
                            len := (HQ.out ()).2.2.2.1.trans HLSX.out.len
                            wait := by have := (HQ.out ()).2.2.2.2.1; rw [← HND.out] at this; omega
                            got := HW6.out
                            want := HW6.out
                            dl := by simp; omega
                            el := fun x hx => by
                              rcases List.mem_append.1 hx with hx | hx
                              · exact HLSX.out.el x hx
                              · obtain rfl := List.mem_singleton.1 hx
                                rw [← HND.out]
                                omega })
                        rw [← HND.out] at HLS6
                        have l6 := HL6.out
                        clear ho hg hat hlt9 HB4 HO4 HQ HQ9 HG9 HW9 HV9 HX9 HF52
                        go_wp2_with fail
                        refine OnlyNormal.mk (wpStages_nil ?_)
                        have e9 : IntKind.i64.wrap ((ln : Int) + (nd : Int)) = (ln : Int) + (nd : Int) := IntWalk.i64_in _ (by omega)
                        go_wp2_with fail
                        exact ⟨⟨m + 1, bb, Y9, D9, ln + nd + 1, dr ++ [d], by omega, rfl, by go_num, by go_num, HLS6⟩, by simp [intOf]; omega⟩
                    · have hfv' : ¬ (fv : Int) = 0 := by omega
                      have HFV := Lib.hid hfv
                      have HLSX := Lib.hid (HLSA.out.later HBW.out)
                      have HVX := Lib.hid (HVA.out.later HBW.out)
                      clear HLSA HVA
                      have hfit := HLSX.out.of_.fits
                      have hwt := HLSX.out.wait
                      simp only at hfit
                      go_wp2_with fail
                      refine (add_upW HLSX.out.o HLSX.out.of_ HLSX.out.sz HLSX.out.up d (show fr + k ≤ 130 by rw [HLSX.out.len] at hfit; omega) (show fs < 1073741824 by have := HFS.out (); omega) (by rw [← HND.out]; omega) (by omega) _ HVX.out).mono ?_
                      rintro e w9 ⟨rfl, Y9, D9, L9, ds9, q1, q2, q3, q4, q5, q6, q7, q8, q9⟩
                      have HQ := Lib.hid (fun (_ : Unit) => And.intro q1 (And.intro q2 (And.intro q3 (And.intro q4 (And.intro q5 (And.intro q6 (And.intro q7 q8)))))))
                      have HQ9 := Lib.hid (fun (_ : Unit) => q9)
                      have HG9 := Lib.hid (HLSX.out.got.moved q8 q7)
                      have HW9 := Lib.hid (HLSX.out.want.moved q8 q7)
                      have HV9 := Lib.hid (HVX.out.moved q8 q7)
                      have HX9 := Lib.hid (fun (_ : Unit) => q8)
                      clear q1 q2 q3 q4 q5 q6 q7 q8 q9
                      rw [HAF2.out ()]
                      go_wp2_with fail
                      have hsm : Calls Try.prog 15 #[errV fv, .int .i64 (fv : Int)] w9 (Ret (.bool true) fun w' => w9 = w') := by simpa using same_any fv fv w9
                      refine hsm.mono ?_
                      rintro e w10 ⟨rfl, rfl⟩
                      clear hsm
                      obtain ⟨rfl, rfl⟩ : L9 = ⟨fr, k, fs, ln⟩ ∧ ds9 = dr := by
                        rcases HQ9.out () with ⟨h, -⟩ | ⟨-, h1, h2⟩
                        · rw [HAF2.out ()] at h
                          exact absurd h HFV.out
                        · exact ⟨h1, h2⟩
                      have HLS9 := Lib.hid (show LS w w9 N fr k fs (m + 1) db bb Y9 D9 ⟨fr, k, fs, ln⟩ ds9 (.slice aog ds9.length cg) (.slice aow2 ds9.length cw2) from
                        { HLSX.out.next with
                          o := (HQ.out ()).2.2.2.2.2.1
                          of_ := (HQ.out ()).2.1
                          sz := (HQ.out ()).2.2.1
                          up := (HQ.out ()).1
                          len := (HQ.out ()).2.2.2.1.trans HLSX.out.len
                          wait := by have := (HQ.out ()).2.2.2.2.1; rw [← HND.out] at this; omega
                          got := HG9.out
                          want := HW9.out })
                      clear HG9 HW9 HV9 HX9 HQ HQ9 HLSX HVX hwt hfit
                      go_wp2_with fail
                      exact ⟨⟨m + 1, bb, Y9, D9, ln, ds9, by omega, rfl, rfl, by go_num, HLS9⟩, by simp [intOf]; omega⟩





end Go.Proofs.Ytkapmpngglibjaa
