/- Several texts in one: what each begins with says what it shows. Conditions: each law's own premises. -/
import Derived.Test.YtkapmpngglibjaaQ02
import Derived.Test.YtkapmpngglibjaaRows
import Derived.Deep.Slices
import Derived.Deep.Fields
import Derived.ChangeSame
import Derived.Carry
import Derived.OpenVars
import Derived.OpenShut

/- What comes in: lists of changes and of acts, and whether they are light. Conditions: each contract's own premises. -/
namespace Go.Proofs.Ytkapmpngglibjaa
open Go Go.RowKit

/-! ### what comes in: changes, acts -/

structure Chg where
  key : ByteArray
  val : ByteArray
  gone : Bool

def Chg.cells (c : Chg) : List Value := [.string c.key, .string c.val, .bool c.gone]

/-- A slice value reads as these elements, of so many cells each. -/
def SliceAt (w : World) (v : Value) (rows : List (List Value)) (size : Nat) : Prop :=
  ∃ ao cap, v = .slice ao rows.length cap ∧ rows.length ≤ maxLen ∧
    ∀ i r, rows[i]? = some r → ∃ b off, ao = some ⟨b, off, none⟩ ∧ ∀ j u, r[j]? = some u → w.cell? ⟨b, off + i * size + j, none⟩ = some u

def ChangesAt (w : World) (v : Value) (l : List Chg) : Prop := SliceAt w v (l.map Chg.cells) 3

theorem SliceAt.of_cells {w w' : World} {v : Value} {rows : List (List Value)} {size : Nat} (h : SliceAt w v rows size) (hc : ∀ a u, w.cell? a = some u → w'.cell? a = some u) : SliceAt w' v rows size := by
  obtain ⟨ao, cap, rfl, hm, hr⟩ := h
  refine ⟨ao, cap, rfl, hm, fun i r hi => ?_⟩
  obtain ⟨b, off, hb, hj⟩ := hr i r hi
  exact ⟨b, off, hb, fun j u hu => hc _ _ (hj j u hu)⟩

theorem SliceAt.below {w w' : World} {v : Value} {rows : List (List Value)} {size : Nat} (h : SliceAt w v rows size) (hb : Below w.heap.size w w') : SliceAt w' v rows size :=
  h.of_cells fun a _ hu => (hb.cell (World.block_lt_of_cell? w a hu)).trans hu

def lightChange (c : Chg) : Bool := c.key.size ≤ 60 && c.val.size ≤ 60
def lightChanges (l : List Chg) (most : Int) : Bool := decide ((l.length : Int) ≤ most) && l.all lightChange

set_option maxHeartbeats 400000 in
set_option maxRecDepth 100000 in
theorem lightChanges_any (v : Value) (l : List Chg) (most : Int) (w : World) (h : ChangesAt w v l) :
    Calls Try.prog 33 #[v, .int .i64 most] w (Ret (.bool (lightChanges l most)) fun w' => w = w') := by
  obtain ⟨ao, cap, rfl, hm, hr⟩ := h
  rw [List.length_map] at *
  obtain ⟨n, hn⟩ : ∃ n, n = l.length := ⟨_, rfl⟩
  rw [← hn] at hm ⊢
  have HN := Lib.hid hn
  clear hn
  unfold maxLen at hm
  have a0 : (0 : Int) ≤ (n : Int) := by omega
  have a1 : (n : Int) ≤ 9223372036854775807 := by omega
  by_cases hlong : most < (n : Int)
  · go_enter Try.func33, Try.ntmps33
    go_wp2
    go_ret
    refine Ret.of ?_ rfl
    have := HN.out
    simp [lightChanges]
    intro h
    omega
  · go_enter Try.func33, Try.ntmps33
    go_wp2
    go_loop [5] (fun i => ∃ k : Nat, k ≤ n ∧ i = .int .i64 (k : Int) ∧ (l.take k).all lightChange = true) (fun i => n - (intOf i).toNat)
    case atStart => exact ⟨0, by omega, rfl, rfl⟩
    case round =>
      obtain ⟨k, hk, rfl, hall⟩ := hrel
      by_cases hlt : k < n
      · obtain ⟨c, hc⟩ : ∃ c, l[k]? = some c := ⟨_, List.getElem?_eq_getElem (by rw [← HN.out]; exact hlt)⟩
        obtain ⟨b, off, rfl, hcell⟩ := hr k c.cells (by simp [hc])
        have c0 := hcell 0 _ rfl
        have c1 := hcell 1 _ rfl
        have b0 : (0 : Int) ≤ (k : Int) := by omega
        have b1 : (k : Int) < (n : Int) := by omega
        have HC := Lib.hid hc
        have HA := Lib.hid hall
        clear hcell hc hall hr
        simp only [Nat.add_zero] at c0
        obtain ⟨ck, cv, cg⟩ := c
        simp only at c0 c1
        have e1 : l.take (k + 1) = l.take k ++ [⟨ck, cv, cg⟩] := by rw [List.take_add_one, HC.out]; rfl
        have HE := Lib.hid e1
        clear e1
        by_cases h1 : (60 : Int) < (ck.size : Int)
        · go_wp2
          go_ret
          refine Ret.of ?_ rfl
          have : l.all lightChange = false := by
            rw [List.all_eq_false]
            exact ⟨_, List.mem_of_getElem? HC.out, by simp [lightChange]; omega⟩
          simp [lightChanges, this]
        by_cases h2 : (60 : Int) < (cv.size : Int)
        · go_wp2
          go_ret
          refine Ret.of ?_ rfl
          have : l.all lightChange = false := by
            rw [List.all_eq_false]
            exact ⟨_, List.mem_of_getElem? HC.out, by simp [lightChange]; omega⟩
          simp [lightChanges, this]
        · go_wp2
          go_round
          case rel =>
            refine ⟨k + 1, by omega, by go_num, ?_⟩
            rw [HE.out, List.all_append, HA.out]
            simp [lightChange]
            omega
          case measure => simp [intOf]; omega
      · obtain rfl : k = n := by omega
        have HA := Lib.hid hall
        clear hall hr
        go_wp2
        go_ret
        refine Ret.of ?_ rfl
        have h1 := HA.out
        have hN := HN.out
        rw [List.take_of_length_le (by omega)] at h1
        rw [lightChanges, h1, decide_eq_true (by omega)]
        rfl

structure ActM where
  kind : ByteArray
  s : ByteArray
  t : ByteArray
  n : Int
  k : Nat
  changes : List Chg

/-- An act with the slice value of its changes. -/
def actCells (x : ActM × Value) : List Value := [.string x.1.kind, .string x.1.s, .string x.1.t, .int .i64 x.1.n, .int .u64 (x.1.k : Int), x.2]

structure ActsAt (w : World) (v : Value) (l : List (ActM × Value)) : Prop where
  rows : SliceAt w v (l.map actCells) 6
  changes : ∀ x ∈ l, ChangesAt w x.2 x.1.changes
  n_lo : ∀ x ∈ l, -9223372036854775808 ≤ x.1.n
  n_hi : ∀ x ∈ l, x.1.n ≤ 9223372036854775807
  k_hi : ∀ x ∈ l, x.1.k < 2 ^ 64

theorem ActsAt.below {w w' : World} {v : Value} {l : List (ActM × Value)} (h : ActsAt w v l) (hb : Below w.heap.size w w') : ActsAt w' v l :=
  ⟨h.rows.below hb, fun x hx => (h.changes x hx).below hb, h.n_lo, h.n_hi, h.k_hi⟩

def lightAct (a : ActM) : Bool := a.s.size ≤ 200 && a.t.size ≤ 150 && lightChanges a.changes 16
def lightActs (l : List (ActM × Value)) (most : Int) : Bool := decide ((l.length : Int) ≤ most) && l.all fun x => lightAct x.1

set_option maxHeartbeats 400000 in
set_option maxRecDepth 100000 in
theorem lightActs_any (v : Value) (l : List (ActM × Value)) (most : Int) (w : World) (h : ActsAt w v l) :
    Calls Try.prog 12 #[v, .int .i64 most] w (Ret (.bool (lightActs l most)) fun w' => w = w') := by
  obtain ⟨⟨ao, cap, rfl, hm, hr⟩, hch, -, -, -⟩ := h
  rw [List.length_map] at *
  obtain ⟨n, hn⟩ : ∃ n, n = l.length := ⟨_, rfl⟩
  rw [← hn] at hm ⊢
  have HN := Lib.hid hn
  clear hn
  unfold maxLen at hm
  have a0 : (0 : Int) ≤ (n : Int) := by omega
  have a1 : (n : Int) ≤ 9223372036854775807 := by omega
  by_cases hlong : most < (n : Int)
  · go_enter Try.func12, Try.ntmps12
    go_wp2_with fail
    go_ret
    refine Ret.of ?_ rfl
    have := HN.out
    simp [lightActs]
    intro h
    omega
  · go_enter Try.func12, Try.ntmps12
    go_wp2_with fail
    go_loop [5] (fun i => ∃ k : Nat, k ≤ n ∧ i = .int .i64 (k : Int) ∧ ((l.take k).all fun x => lightAct x.1) = true) (fun i => n - (intOf i).toNat)
    case atStart => exact ⟨0, by omega, rfl, rfl⟩
    case round =>
      obtain ⟨k, hk, rfl, hall⟩ := hrel
      by_cases hlt : k < n
      · obtain ⟨c, hc⟩ : ∃ c, l[k]? = some c := ⟨_, List.getElem?_eq_getElem (by rw [← HN.out]; exact hlt)⟩
        obtain ⟨b, off, rfl, hcell⟩ := hr k (actCells c) (by simp [hc])
        have c1 := hcell 1 _ rfl
        have c2 := hcell 2 _ rfl
        have c5 := hcell 5 _ rfl
        have hcc := hch c (List.mem_of_getElem? hc)
        have b0 : (0 : Int) ≤ (k : Int) := by omega
        have b1 : (k : Int) < (n : Int) := by omega
        have HC := Lib.hid hc
        have HA := Lib.hid hall
        clear hcell hc hall hr hch
        obtain ⟨⟨kind, s, t, an, ak, ch⟩, cv⟩ := c
        simp only at c1 c2 c5 hcc
        have e1 : l.take (k + 1) = l.take k ++ [(⟨kind, s, t, an, ak, ch⟩, cv)] := by rw [List.take_add_one, HC.out]; rfl
        have HE := Lib.hid e1
        clear e1
        have no : lightAct ⟨kind, s, t, an, ak, ch⟩ = false → lightActs l most = false := fun h => by
          have : (l.all fun x => lightAct x.1) = false := by
            rw [List.all_eq_false]
            exact ⟨_, List.mem_of_getElem? HC.out, by simp [h]⟩
          simp [lightActs, this]
        have NO := Lib.hid no
        clear no
        by_cases h1 : (200 : Int) < (s.size : Int)
        · go_wp2_with fail
          go_ret
          refine Ret.of ?_ rfl
          rw [NO.out (by simp [lightAct]; omega)]; rfl
        by_cases h2 : (150 : Int) < (t.size : Int)
        · go_wp2_with fail
          go_ret
          refine Ret.of ?_ rfl
          rw [NO.out (by simp [lightAct]; omega)]; rfl
        · go_wp2_with fail
          refine (lightChanges_any cv ch 16 _ hcc).mono ?_
          rintro e w' ⟨rfl, rfl⟩
          by_cases h3 : lightChanges ch 16 = true
          · rw [h3]
            have H3 := Lib.hid h3
            clear h3
            go_wp2_with fail
            go_round
            case rel =>
              refine ⟨k + 1, by omega, by go_num, ?_⟩
              rw [HE.out, List.all_append, HA.out]
              have := H3.out
              simp [lightAct, this]
              omega
            case measure => simp [intOf]; omega
          · have h3' : lightChanges ch 16 = false := by simpa using h3
            rw [h3']
            have H3 := Lib.hid h3'
            clear h3 h3'
            go_wp2_with fail
            go_ret
            refine Ret.of ?_ rfl
            rw [NO.out (by simp [lightAct, H3.out])]; rfl
      · obtain rfl : k = n := by omega
        have HA := Lib.hid hall
        clear hall hr hch
        go_wp2_with fail
        go_ret
        refine Ret.of ?_ rfl
        have h1 := HA.out
        have hN := HN.out
        rw [List.take_of_length_le (by omega)] at h1
        rw [lightActs, h1, decide_eq_true (by omega)]
        rfl
end Go.Proofs.Ytkapmpngglibjaa

/- What comes in, opened: slices of structs of one-cell fields, read as plain lists. And a law's answer, shut: where the world is as it was below. Conditions: each theorem's own premises. -/
namespace Go.Proofs.Ytkapmpngglibjaa
open Go Go.RowKit Go.ChangeShapes Go.WideShapes Go.Deep

theorem add_off (b off k : Nat) : (⟨b, off, none⟩ : Addr).add k = ⟨b, off + k, none⟩ := by
  unfold Addr.add
  split
  · subst k; rfl
  · rfl

section
variable {H : Type} {enc : TypeId × Value → H} {P : Program} {w : World} {sp : Nat → Bool} {held : Bool}

/-- A slice of structs of one-cell fields: its cells, by element and field, and each one's own reading. -/
theorem open_rows {t e : TypeId} {fs : Array Field} {fuel : Nat} {v : Value} {x : DataW H × List MemPlace} (ht : P.underlying t = some (.slice e)) (he : P.underlying e = some (.struct fs))
    (hone : oneCellFields P fs = true) (hC : P.cellsOf e = fs.size) (hpos : 0 < fs.size) (k : Nat) (hk : fs.size = k) (h : DataW.trod enc P w 0 sp held fuel t [v] = some x) :
    ∃ (ao : Option Addr) (n cap : Nat) (F : Nat → Nat → Value), v = .slice ao n cap ∧ n ≤ maxLen ∧
      ∀ i, i < n → (∃ b off, ao = some ⟨b, off, none⟩ ∧ ∀ j, j < k → w.cell? ⟨b, off + i * k + j, none⟩ = some (F i j)) ∧
        ∀ (j : Nat) (f : Field), fs[j]? = some f → ∃ m y, DataW.trod enc P w 0 sp held m f.type [F i j] = some y := by
  subst hk
  rcases open_slice ht h with ⟨hv, -⟩ | ⟨a, len, cap, m, n, D, Pl, hcs, -, hl, hm, hmm, -, hi⟩
  · obtain rfl : v = .slice none 0 0 := by simpa using hv
    exact ⟨none, 0, 0, fun _ _ => undef, rfl, Nat.zero_le _, fun i hi => absurd hi (by omega)⟩
  · obtain rfl : v = .slice (some a) len cap := by simpa using hcs
    have hlm : len ≤ m := by rw [hmm]; split <;> omega
    have hall : ∀ i, i < len → ∃ cs' : List Value, cs'.length = fs.size ∧ (∀ j, j < fs.size → w.cell? ((a.add (i * fs.size)).add j) = cs'[j]?) ∧
        ∀ (j : Nat) (f : Field), fs[j]? = some f → ∃ k y, DataW.trod enc P w 0 sp held k f.type [cs'.getD j undef] = some y := by
      intro i hil
      obtain ⟨cs', hc, ht'⟩ := hi i (by omega)
      rw [hC] at hc
      obtain ⟨ys, n', -, -, hlen, hyl, hf⟩ := DataW.trod_struct he ht'
      obtain ⟨-, -, hat⟩ := World.cells?_some hc
      rw [hC] at hlen
      refine ⟨cs', hlen, fun j hj => hat j hj, fun j f hj => ?_⟩
      obtain ⟨ho, hk⟩ := hone_of hone j f hj
      have hjl : j < fs.size := (Array.getElem?_eq_some_iff.1 hj).1
      have h1 := hf j f hj
      rw [ho, hk] at h1
      have h2 : (cs'.drop j).take 1 = [cs'.getD j undef] := by
        have h3 : cs'.getD j undef = cs'[j]'(by omega) := by simp [List.getD, List.getElem?_eq_getElem (show j < cs'.length by omega)]
        rw [h3, List.drop_eq_getElem_cons (by omega)]
        rfl
      rw [h2, List.getElem?_eq_getElem (by omega)] at h1
      exact ⟨_, _, h1⟩
    obtain ⟨G, hG⟩ := Classical.axiomOfChoice (r := fun i (cs' : List Value) => i < len → cs'.length = fs.size ∧ (∀ j, j < fs.size → w.cell? ((a.add (i * fs.size)).add j) = cs'[j]?) ∧
        ∀ (j : Nat) (f : Field), fs[j]? = some f → ∃ k y, DataW.trod enc P w 0 sp held k f.type [cs'.getD j undef] = some y)
      (fun i => by
        by_cases hil : i < len
        · obtain ⟨c, hc⟩ := hall i hil
          exact ⟨c, fun _ => hc⟩
        · exact ⟨[], fun h => absurd h hil⟩)
    refine ⟨some a, len, cap, fun i j => (G i).getD j undef, rfl, Nat.le_trans hl hm, fun i hil => ⟨?_, (hG i hil).2.2⟩⟩
    have hspot : a.spot = none := by
      obtain ⟨h1, h2, -⟩ := hG 0 (by omega)
      have h3 := h2 0 hpos
      rw [Nat.zero_mul, Addr.add, if_pos rfl, Addr.add, if_pos rfl, List.getElem?_eq_getElem (by omega)] at h3
      unfold World.cell? at h3
      split at h3
      · split at h3
        · cases h3
        · cases hs : a.spot <;> simp_all
      · cases h3
    obtain ⟨b, off, sp'⟩ := a
    simp only at hspot
    subst hspot
    refine ⟨b, off, rfl, fun j hj => ?_⟩
    have h3 := (hG i hil).2.1 j hj
    have hlen := (hG i hil).1
    rw [add_off, add_off, List.getElem?_eq_getElem (by omega)] at h3
    rw [h3]
    simp [List.getD, List.getElem?_eq_getElem (show j < (G i).length by omega)]

theorem trod_stays_all (hl : laidOutB P = true) {W W' : World} (hb : Below W.heap.size W W') :
    ∀ {ts : List TypeId} {vs : List Value} {ds : List (DataW H)} {ps : List MemPlace}, (ts.all fun t => P.readableRec t && decide (t < P.types.size)) = true → (∀ x ∈ ps, x.block < W.heap.size) →
      DataW.TrodAll enc P W 0 (fun _ => true) true ts vs ds ps → DataW.TrodAll enc P W' 0 (fun b => decide (b < W.heap.size)) true ts vs ds ps
  | [], _, _, _, _, _, h => by
    obtain ⟨rfl, rfl, rfl⟩ := trodAll_nil h
    exact trodAll_mk0
  | t :: ts, vs, ds, ps, hr, hlt, h => by
    obtain ⟨v, vs', d, ds', p, q, rfl, rfl, rfl, h1, h2⟩ := trodAll_cons h
    simp only [List.all_cons, Bool.and_eq_true, decide_eq_true_eq] at hr
    exact trodAll_cons_mk (Below.trod hl hr.1.1 hr.1.2 h1 hb fun x hx => hlt x (by simp [hx])) (trod_stays_all hl hb hr.2 (fun x hx => hlt x (by simp [hx])) h2)

/-- A LAW's ANSWER: true, and below the world is as it was: the row's whole conclusion (no variable read, no second call asked). -/
theorem law_post (hl : laidOutB P = true) {f : Func} {s : ChangeSpec} {W W' : World} {args : Array Value} {ds gs : List (DataW H)} {before : List MemPlace}
    (hW : DataW.Whole enc P f.params.toList s.vars false W args.toList ds gs before) (hb : Below W.heap.size W W') (hr : (f.params.toList.all fun t => P.readableRec t && decide (t < P.types.size)) = true)
    (hv : varsRowed P s.vars = true) {tb : TypeId} (hres : f.resultTypes = #[tb]) (hbool : P.underlying tb = some .bool)
    (h1 : (s.fn H (ds ++ gs)).results = [.lit (.bool true)]) (h2 : (s.fn H (ds ++ gs)).args = ds) (h3 : (s.fn H (ds ++ gs)).vars = gs) :
    s.post enc P f false true false false W args (.bool true) W' := by
  have hlt := hW.lt
  have hW' := hW
  obtain ⟨p, q, hA, hV, rfl, -, -⟩ := hW
  refine ⟨ds, gs, _, [], p, q, hW', ?_, ?_, ?_, World.keptBut_mono (fun x hx => hx) (hb.frame _), fun h => by cases h⟩
  · rw [h1, hres]
    exact trodAll_cons_mk (shut_bool hbool _) trodAll_mk0
  · rw [h2]
    exact trod_stays_all hl hb hr (fun x hx => hlt x (by simp [hx])) hA
  · rw [h3]
    exact Below.trodVars hl hb hv hV
end

def strOf : Value → ByteArray | .string s => s | _ => ByteArray.empty
def boolOf : Value → Bool | .bool b => b | _ => false

section
variable {H : Type} {enc : TypeId × Value → H} {w : World} {sp : Nat → Bool} {held : Bool}

theorem open_changes {fuel : Nat} {v : Value} {x : DataW H × List MemPlace} (h : DataW.trod enc Try.prog w 0 sp held fuel 36 [v] = some x) : ∃ l, ChangesAt w v l := by
  obtain ⟨ao, n, cap, F, rfl, hm, hF⟩ := open_rows Try.underlying36 Try.underlying64 (by kernel_rfl) (by kernel_rfl) (by decide) 3 rfl h
  refine ⟨(List.range n).map fun i => ⟨strOf (F i 0), strOf (F i 1), boolOf (F i 2)⟩, ao, cap, by simp, by simpa using hm, fun i r hi => ?_⟩
  by_cases hil : i < n
  · simp [hil] at hi
    subst hi
    obtain ⟨⟨b, off, rfl, hc⟩, hf⟩ := hF i hil
    refine ⟨b, off, rfl, fun j u hu => ?_⟩
    obtain ⟨m0, y0, t0⟩ := hf 0 _ rfl
    obtain ⟨m1, y1, t1⟩ := hf 1 _ rfl
    obtain ⟨m2, y2, t2⟩ := hf 2 _ rfl
    obtain ⟨s0, e0, -⟩ := DataW.trod_string Try.underlying9 t0
    obtain ⟨s1, e1, -⟩ := DataW.trod_string Try.underlying9 t1
    obtain ⟨s2, e2, -⟩ := DataW.trod_bool Try.underlying4 t2
    simp only [List.cons.injEq, and_true] at e0 e1 e2
    have hj : j < 3 := by
      have := (List.getElem?_eq_some_iff.1 hu).1
      simpa [Chg.cells] using this
    rw [hc j hj, ← hu]
    match j, hj with
    | 0, _ => simp [Chg.cells, e0, strOf]
    | 1, _ => simp [Chg.cells, e1, strOf]
    | 2, _ => simp [Chg.cells, e2, boolOf]
  · simp [hil] at hi

theorem open_acts {fuel : Nat} {v : Value} {x : DataW H × List MemPlace} (h : DataW.trod enc Try.prog w 0 sp held fuel 22 [v] = some x) : ∃ l, ActsAt w v l := by
  obtain ⟨ao, n, cap, F, rfl, hm, hF⟩ := open_rows Try.underlying22 Try.underlying38 (by kernel_rfl) (by kernel_rfl) (by decide) 6 rfl h
  have hall : ∀ i, ∃ l : List Chg, i < n → ChangesAt w (F i 5) l := fun i => by
    by_cases hil : i < n
    · obtain ⟨m5, y5, t5⟩ := (hF i hil).2 5 _ rfl
      obtain ⟨l, hl⟩ := open_changes t5
      exact ⟨l, fun _ => hl⟩
    · exact ⟨[], fun h => absurd h hil⟩
  obtain ⟨C, hC⟩ := Classical.axiomOfChoice hall
  have hk : ∀ i, i < n → (∃ s, F i 0 = .string s) ∧ (∃ s, F i 1 = .string s) ∧ (∃ s, F i 2 = .string s) ∧ (∃ z, F i 3 = .int .i64 z ∧ -9223372036854775808 ≤ z ∧ z ≤ 9223372036854775807) ∧ (∃ z : Nat, F i 4 = .int .u64 (z : Int) ∧ z < 2 ^ 64) := fun i hil => by
    obtain ⟨-, hf⟩ := hF i hil
    obtain ⟨m0, y0, t0⟩ := hf 0 _ rfl
    obtain ⟨m1, y1, t1⟩ := hf 1 _ rfl
    obtain ⟨m2, y2, t2⟩ := hf 2 _ rfl
    obtain ⟨m3, y3, t3⟩ := hf 3 _ rfl
    obtain ⟨m4, y4, t4⟩ := hf 4 _ rfl
    obtain ⟨s0, e0, -⟩ := DataW.trod_string Try.underlying9 t0
    obtain ⟨s1, e1, -⟩ := DataW.trod_string Try.underlying9 t1
    obtain ⟨s2, e2, -⟩ := DataW.trod_string Try.underlying9 t2
    obtain ⟨s3, e3, -, w3⟩ := DataW.trod_int Try.underlying3 t3
    obtain ⟨s4, e4, -, w4⟩ := DataW.trod_int Try.underlying35 t4
    simp only [List.cons.injEq, and_true] at e0 e1 e2 e3 e4
    have hx3 : -9223372036854775808 ≤ s3 ∧ s3 ≤ 9223372036854775807 := by simpa [Lit.wf, IntKind.min, IntKind.max, IntKind.signed, IntKind.bits] using w3
    have hx4 : 0 ≤ s4 ∧ s4 ≤ 18446744073709551615 := by simpa [Lit.wf, IntKind.min, IntKind.max, IntKind.signed, IntKind.bits] using w4
    obtain ⟨z, rfl⟩ := Int.eq_ofNat_of_zero_le hx4.1
    exact ⟨⟨_, e0⟩, ⟨_, e1⟩, ⟨_, e2⟩, ⟨_, e3, hx3⟩, ⟨_, e4, by omega⟩⟩
  refine ⟨(List.range n).map fun i => (⟨strOf (F i 0), strOf (F i 1), strOf (F i 2), intOf (F i 3), (intOf (F i 4)).toNat, C i⟩, F i 5), ⟨ao, cap, by simp, by simpa using hm, fun i r hi => ?_⟩, ?_, ?_, ?_, ?_⟩
  · by_cases hil : i < n
    · simp [hil] at hi
      subst hi
      obtain ⟨⟨b, off, rfl, hc⟩, -⟩ := hF i hil
      obtain ⟨⟨s0, e0⟩, ⟨s1, e1⟩, ⟨s2, e2⟩, ⟨s3, e3, -⟩, ⟨s4, e4, -⟩⟩ := hk i hil
      refine ⟨b, off, rfl, fun j u hu => ?_⟩
      have hj : j < 6 := by
        have := (List.getElem?_eq_some_iff.1 hu).1
        simpa [actCells] using this
      rw [hc j hj, ← hu]
      match j, hj with
      | 0, _ => simp [actCells, e0, strOf]
      | 1, _ => simp [actCells, e1, strOf]
      | 2, _ => simp [actCells, e2, strOf]
      | 3, _ => simp [actCells, e3, intOf]
      | 4, _ => simp [actCells, e4, intOf]
      | 5, _ => simp [actCells]
    · simp [hil] at hi
  all_goals
    intro x hx
    simp only [List.mem_map, List.mem_range] at hx
    obtain ⟨i, hil, rfl⟩ := hx
    obtain ⟨-, -, -, ⟨s3, e3, h3, h3'⟩, ⟨s4, e4, h4⟩⟩ := hk i hil
  · exact hC i hil
  · simpa [e3, intOf] using h3
  · simpa [e3, intOf] using h3'
  · simpa [e4, intOf] using h4
end

theorem own : ownKnob Try.prog.godebug = none := by kernel_rfl
theorem laid : laidOutB Try.prog = true := by kernel_rfl
end Go.Proofs.Ytkapmpngglibjaa

/- Slices of elements of several cells: rows, and their cells in one list. No condition beyond each law's own. -/
namespace Go.Proofs.Ytkapmpngglibjaa
open Go Go.RowKit

/-! ### rows of elements, and their cells in one list -/

theorem flatten_length {s : Nat} : ∀ (rows : List (List Value)), (∀ r ∈ rows, r.length = s) → rows.flatten.length = rows.length * s
  | [], _ => by simp
  | r :: l, h => by
    rw [List.flatten_cons, List.length_append, h r (by simp), flatten_length l (fun x hx => h x (by simp [hx])), List.length_cons, Nat.add_mul]
    omega

theorem flatten_get {s : Nat} : ∀ (rows : List (List Value)) (_ : ∀ r ∈ rows, r.length = s) (i k : Nat) (r : List Value), k < s → rows[i]? = some r → rows.flatten[i * s + k]? = r[k]?
  | [], _, i, k, r, _, h => by simp at h
  | x :: l, hl, i, k, r, hk, h => by
    have hx := hl x (by simp)
    cases i with
    | zero =>
      simp at h
      subst h
      rw [List.flatten_cons, Nat.zero_mul, Nat.zero_add, List.getElem?_append_left (by omega)]
    | succ i =>
      have ih := flatten_get l (fun y hy => hl y (by simp [hy])) i k r hk (by simpa using h)
      rw [List.flatten_cons, List.getElem?_append_right (by rw [hx, Nat.add_mul]; omega), ← ih]
      congr 1
      rw [hx, Nat.add_mul]
      omega

/-- Each place of the one list is a place of a row. -/
theorem flatten_place {s : Nat} (rows : List (List Value)) (hl : ∀ r ∈ rows, r.length = s) (j : Nat) (u : Value) (h : rows.flatten[j]? = some u) :
    ∃ i k r, k < s ∧ j = i * s + k ∧ rows[i]? = some r ∧ r[k]? = some u := by
  have hj : j < rows.length * s := by
    have := (List.getElem?_eq_some_iff.1 h).1
    rwa [flatten_length rows hl] at this
  have hs : 0 < s := by
    rcases Nat.eq_zero_or_pos s with h0 | h0
    · subst h0; omega
    · exact h0
  have hi : j / s < rows.length := by rw [Nat.div_lt_iff_lt_mul hs]; exact hj
  have hk : j % s < s := Nat.mod_lt _ hs
  have hjj : j = j / s * s + j % s := by rw [Nat.mul_comm]; exact (Nat.div_add_mod j s).symm
  refine ⟨j / s, j % s, rows[j / s], hk, hjj, List.getElem?_eq_getElem hi, ?_⟩
  rw [← flatten_get rows hl (j / s) (j % s) rows[j / s] hk (List.getElem?_eq_getElem hi), ← hjj]
  exact h

theorem SliceAt.flat {w : World} {v : Value} {rows : List (List Value)} {s : Nat} (h : SliceAt w v rows s) (hl : ∀ r ∈ rows, r.length = s) (hn : 0 < rows.length) :
    ∃ b off cap, v = .slice (some ⟨b, off, none⟩) rows.length cap ∧ ∀ j u, rows.flatten[j]? = some u → w.cell? ((⟨b, off, none⟩ : Addr).add j) = some u := by
  obtain ⟨ao, cap, rfl, hm, hr⟩ := h
  obtain ⟨b, off, rfl, -⟩ := hr 0 _ (List.getElem?_eq_getElem hn)
  refine ⟨b, off, cap, rfl, fun j u hu => ?_⟩
  obtain ⟨i, k, r, hk, rfl, hi, hr'⟩ := flatten_place rows hl j u hu
  obtain ⟨b', off', hb, hc⟩ := hr i r hi
  cases hb
  rw [add_off, ← Nat.add_assoc]
  exact hc k u hr'

theorem SliceAt.of_owns {w : World} {base : Nat} {e : TypeId} {s : Nat} {v : Value} {rows : List (List Value)} (hl : ∀ r ∈ rows, r.length = s) (h : w.ownsRow base e s v rows.length rows.flatten) : SliceAt w v rows s := by
  rcases h.2 with ⟨rfl, h0⟩ | ⟨g, cap, cur, rfl, hb, hg, h1, h2, h3, h4⟩
  · refine ⟨none, 0, by rw [h0], by rw [h0]; unfold maxLen; omega, fun i r hi => ?_⟩
    rw [List.eq_nil_of_length_eq_zero h0] at hi
    cases hi
  · refine ⟨some ⟨g, 0, none⟩, cap, rfl, Nat.le_trans h1 h2, fun i r hi => ⟨g, 0, rfl, fun j u hu => ?_⟩⟩
    have hr : r.length = s := hl r (List.mem_of_getElem? hi)
    have hj : j < s := by rw [← hr]; exact (List.getElem?_eq_some_iff.1 hu).1
    have := flatten_get rows hl i j r hj hi
    rw [hu, ← h4] at this
    rw [Nat.zero_add, cell_of hg]
    rw [← Array.getElem?_toList]
    exact getElem_of_take rfl _ _ this

end Go.Proofs.Ytkapmpngglibjaa
