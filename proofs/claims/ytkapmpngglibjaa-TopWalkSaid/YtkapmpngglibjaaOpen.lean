/- What comes in, opened: slices of structs of one-cell fields, read as plain lists. And a law's answer, shut: where the world is as it was below. Conditions: each theorem's own premises. -/
import Derived.Test.YtkapmpngglibjaaArgs
import Derived.Test.YtkapmpngglibjaaRows
import Derived.Deep.Slices
import Derived.Deep.Fields
import Derived.ChangeSame
import Derived.Carry
import Derived.OpenVars
import Derived.OpenShut
namespace Go.Proofs.Ytkapmpngglibjaa
open Go Go.RowKit Go.ChangeShapes Go.WideShapes Go.Deep

theorem add_off (b off k : Nat) : (⟨b, off, none⟩ : Addr).add k = ⟨b, off + k, none⟩ := by
  unfold Addr.add
  split
  · subst k; rfl
  · rfl

section
variable {H : Type} {enc : TypeId × Value → H} {P : Program} {w : World} {sp : Nat → Bool} {held : Bool}

/-- A slice of structs of one-cell fields: its cells, by element and field, and each one's own reading. -/
theorem open_rows {t e : TypeId} {fs : Array Field} {fuel : Nat} {v : Value} {x : DataW H × List MemPlace} (ht : P.underlying t = some (.slice e)) (he : P.underlying e = some (.struct fs))
    (hone : oneCellFields P fs = true) (hC : P.cellsOf e = fs.size) (hpos : 0 < fs.size) (k : Nat) (hk : fs.size = k) (h : DataW.trod enc P w 0 sp held fuel t [v] = some x) :
    ∃ (ao : Option Addr) (n cap : Nat) (F : Nat → Nat → Value), v = .slice ao n cap ∧ n ≤ maxLen ∧
      ∀ i, i < n → (∃ b off, ao = some ⟨b, off, none⟩ ∧ ∀ j, j < k → w.cell? ⟨b, off + i * k + j, none⟩ = some (F i j)) ∧
        ∀ (j : Nat) (f : Field), fs[j]? = some f → ∃ m y, DataW.trod enc P w 0 sp held m f.type [F i j] = some y := by
  subst hk
  rcases open_slice ht h with ⟨hv, -⟩ | ⟨a, len, cap, m, n, D, Pl, hcs, -, hl, hm, hmm, -, hi⟩
  · obtain rfl : v = .slice none 0 0 := by simpa using hv
    exact ⟨none, 0, 0, fun _ _ => undef, rfl, Nat.zero_le _, fun i hi => absurd hi (by omega)⟩
  · obtain rfl : v = .slice (some a) len cap := by simpa using hcs
    have hlm : len ≤ m := by rw [hmm]; split <;> omega
    have hall : ∀ i, i < len → ∃ cs' : List Value, cs'.length = fs.size ∧ (∀ j, j < fs.size → w.cell? ((a.add (i * fs.size)).add j) = cs'[j]?) ∧
        ∀ (j : Nat) (f : Field), fs[j]? = some f → ∃ k y, DataW.trod enc P w 0 sp held k f.type [cs'.getD j undef] = some y := by
      intro i hil
      obtain ⟨cs', hc, ht'⟩ := hi i (by omega)
      rw [hC] at hc
      obtain ⟨ys, n', -, -, hlen, hyl, hf⟩ := DataW.trod_struct he ht'
      obtain ⟨-, -, hat⟩ := World.cells?_some hc
      rw [hC] at hlen
      refine ⟨cs', hlen, fun j hj => hat j hj, fun j f hj => ?_⟩
      obtain ⟨ho, hk⟩ := hone_of hone j f hj
      have hjl : j < fs.size := (Array.getElem?_eq_some_iff.1 hj).1
      have h1 := hf j f hj
      rw [ho, hk] at h1
      have h2 : (cs'.drop j).take 1 = [cs'.getD j undef] := by
        have h3 : cs'.getD j undef = cs'[j]'(by omega) := by simp [List.getD, List.getElem?_eq_getElem (show j < cs'.length by omega)]
        rw [h3, List.drop_eq_getElem_cons (by omega)]
        rfl
      rw [h2, List.getElem?_eq_getElem (by omega)] at h1
      exact ⟨_, _, h1⟩
    obtain ⟨G, hG⟩ := Classical.axiomOfChoice (r := fun i (cs' : List Value) => i < len → cs'.length = fs.size ∧ (∀ j, j < fs.size → w.cell? ((a.add (i * fs.size)).add j) = cs'[j]?) ∧
        ∀ (j : Nat) (f : Field), fs[j]? = some f → ∃ k y, DataW.trod enc P w 0 sp held k f.type [cs'.getD j undef] = some y)
      (fun i => by
        by_cases hil : i < len
        · obtain ⟨c, hc⟩ := hall i hil
          exact ⟨c, fun _ => hc⟩
        · exact ⟨[], fun h => absurd h hil⟩)
    refine ⟨some a, len, cap, fun i j => (G i).getD j undef, rfl, Nat.le_trans hl hm, fun i hil => ⟨?_, (hG i hil).2.2⟩⟩
    have hspot : a.spot = none := by
      obtain ⟨h1, h2, -⟩ := hG 0 (by omega)
      have h3 := h2 0 hpos
      rw [Nat.zero_mul, Addr.add, if_pos rfl, Addr.add, if_pos rfl, List.getElem?_eq_getElem (by omega)] at h3
      unfold World.cell? at h3
      split at h3
      · split at h3
        · cases h3
        · cases hs : a.spot <;> simp_all
      · cases h3
    obtain ⟨b, off, sp'⟩ := a
    simp only at hspot
    subst hspot
    refine ⟨b, off, rfl, fun j hj => ?_⟩
    have h3 := (hG i hil).2.1 j hj
    have hlen := (hG i hil).1
    rw [add_off, add_off, List.getElem?_eq_getElem (by omega)] at h3
    rw [h3]
    simp [List.getD, List.getElem?_eq_getElem (show j < (G i).length by omega)]

theorem trod_stays_all (hl : laidOutB P = true) {W W' : World} (hb : Below W.heap.size W W') :
    ∀ {ts : List TypeId} {vs : List Value} {ds : List (DataW H)} {ps : List MemPlace}, (ts.all fun t => P.readableRec t && decide (t < P.types.size)) = true → (∀ x ∈ ps, x.block < W.heap.size) →
      DataW.TrodAll enc P W 0 (fun _ => true) true ts vs ds ps → DataW.TrodAll enc P W' 0 (fun b => decide (b < W.heap.size)) true ts vs ds ps
  | [], _, _, _, _, _, h => by
    obtain ⟨rfl, rfl, rfl⟩ := trodAll_nil h
    exact trodAll_mk0
  | t :: ts, vs, ds, ps, hr, hlt, h => by
    obtain ⟨v, vs', d, ds', p, q, rfl, rfl, rfl, h1, h2⟩ := trodAll_cons h
    simp only [List.all_cons, Bool.and_eq_true, decide_eq_true_eq] at hr
    exact trodAll_cons_mk (Below.trod hl hr.1.1 hr.1.2 h1 hb fun x hx => hlt x (by simp [hx])) (trod_stays_all hl hb hr.2 (fun x hx => hlt x (by simp [hx])) h2)

/-- A LAW's ANSWER: true, and below the world is as it was: the row's whole conclusion (no variable read, no second call asked). -/
theorem law_post (hl : laidOutB P = true) {f : Func} {s : ChangeSpec} {W W' : World} {args : Array Value} {ds gs : List (DataW H)} {before : List MemPlace}
    (hW : DataW.Whole enc P f.params.toList s.vars false W args.toList ds gs before) (hb : Below W.heap.size W W') (hr : (f.params.toList.all fun t => P.readableRec t && decide (t < P.types.size)) = true)
    (hv : varsRowed P s.vars = true) {tb : TypeId} (hres : f.resultTypes = #[tb]) (hbool : P.underlying tb = some .bool)
    (h1 : (s.fn H (ds ++ gs)).results = [.lit (.bool true)]) (h2 : (s.fn H (ds ++ gs)).args = ds) (h3 : (s.fn H (ds ++ gs)).vars = gs) :
    s.post enc P f false true false false W args (.bool true) W' := by
  have hlt := hW.lt
  have hW' := hW
  obtain ⟨p, q, hA, hV, rfl, -, -⟩ := hW
  refine ⟨ds, gs, _, [], p, q, hW', ?_, ?_, ?_, World.keptBut_mono (fun x hx => hx) (hb.frame _), fun h => by cases h⟩
  · rw [h1, hres]
    exact trodAll_cons_mk (shut_bool hbool _) trodAll_mk0
  · rw [h2]
    exact trod_stays_all hl hb hr (fun x hx => hlt x (by simp [hx])) hA
  · rw [h3]
    exact Below.trodVars hl hb hv hV
end

def strOf : Value → ByteArray | .string s => s | _ => ByteArray.empty
def boolOf : Value → Bool | .bool b => b | _ => false

section
variable {H : Type} {enc : TypeId × Value → H} {w : World} {sp : Nat → Bool} {held : Bool}

theorem open_changes {fuel : Nat} {v : Value} {x : DataW H × List MemPlace} (h : DataW.trod enc Try.prog w 0 sp held fuel 36 [v] = some x) : ∃ l, ChangesAt w v l := by
  obtain ⟨ao, n, cap, F, rfl, hm, hF⟩ := open_rows Try.underlying36 Try.underlying64 (by kernel_rfl) (by kernel_rfl) (by decide) 3 rfl h
  refine ⟨(List.range n).map fun i => ⟨strOf (F i 0), strOf (F i 1), boolOf (F i 2)⟩, ao, cap, by simp, by simpa using hm, fun i r hi => ?_⟩
  by_cases hil : i < n
  · simp [hil] at hi
    subst hi
    obtain ⟨⟨b, off, rfl, hc⟩, hf⟩ := hF i hil
    refine ⟨b, off, rfl, fun j u hu => ?_⟩
    obtain ⟨m0, y0, t0⟩ := hf 0 _ rfl
    obtain ⟨m1, y1, t1⟩ := hf 1 _ rfl
    obtain ⟨m2, y2, t2⟩ := hf 2 _ rfl
    obtain ⟨s0, e0, -⟩ := DataW.trod_string Try.underlying9 t0
    obtain ⟨s1, e1, -⟩ := DataW.trod_string Try.underlying9 t1
    obtain ⟨s2, e2, -⟩ := DataW.trod_bool Try.underlying4 t2
    simp only [List.cons.injEq, and_true] at e0 e1 e2
    have hj : j < 3 := by
      have := (List.getElem?_eq_some_iff.1 hu).1
      simpa [Chg.cells] using this
    rw [hc j hj, ← hu]
    match j, hj with
    | 0, _ => simp [Chg.cells, e0, strOf]
    | 1, _ => simp [Chg.cells, e1, strOf]
    | 2, _ => simp [Chg.cells, e2, boolOf]
  · simp [hil] at hi

theorem open_acts {fuel : Nat} {v : Value} {x : DataW H × List MemPlace} (h : DataW.trod enc Try.prog w 0 sp held fuel 22 [v] = some x) : ∃ l, ActsAt w v l := by
  obtain ⟨ao, n, cap, F, rfl, hm, hF⟩ := open_rows Try.underlying22 Try.underlying38 (by kernel_rfl) (by kernel_rfl) (by decide) 6 rfl h
  have hall : ∀ i, ∃ l : List Chg, i < n → ChangesAt w (F i 5) l := fun i => by
    by_cases hil : i < n
    · obtain ⟨m5, y5, t5⟩ := (hF i hil).2 5 _ rfl
      obtain ⟨l, hl⟩ := open_changes t5
      exact ⟨l, fun _ => hl⟩
    · exact ⟨[], fun h => absurd h hil⟩
  obtain ⟨C, hC⟩ := Classical.axiomOfChoice hall
  have hk : ∀ i, i < n → (∃ s, F i 0 = .string s) ∧ (∃ s, F i 1 = .string s) ∧ (∃ s, F i 2 = .string s) ∧ (∃ z, F i 3 = .int .i64 z ∧ -9223372036854775808 ≤ z ∧ z ≤ 9223372036854775807) ∧ (∃ z : Nat, F i 4 = .int .u64 (z : Int) ∧ z < 2 ^ 64) := fun i hil => by
    obtain ⟨-, hf⟩ := hF i hil
    obtain ⟨m0, y0, t0⟩ := hf 0 _ rfl
    obtain ⟨m1, y1, t1⟩ := hf 1 _ rfl
    obtain ⟨m2, y2, t2⟩ := hf 2 _ rfl
    obtain ⟨m3, y3, t3⟩ := hf 3 _ rfl
    obtain ⟨m4, y4, t4⟩ := hf 4 _ rfl
    obtain ⟨s0, e0, -⟩ := DataW.trod_string Try.underlying9 t0
    obtain ⟨s1, e1, -⟩ := DataW.trod_string Try.underlying9 t1
    obtain ⟨s2, e2, -⟩ := DataW.trod_string Try.underlying9 t2
    obtain ⟨s3, e3, -, w3⟩ := DataW.trod_int Try.underlying3 t3
    obtain ⟨s4, e4, -, w4⟩ := DataW.trod_int Try.underlying35 t4
    simp only [List.cons.injEq, and_true] at e0 e1 e2 e3 e4
    have hx3 : -9223372036854775808 ≤ s3 ∧ s3 ≤ 9223372036854775807 := by simpa [Lit.wf, IntKind.min, IntKind.max, IntKind.signed, IntKind.bits] using w3
    have hx4 : 0 ≤ s4 ∧ s4 ≤ 18446744073709551615 := by simpa [Lit.wf, IntKind.min, IntKind.max, IntKind.signed, IntKind.bits] using w4
    obtain ⟨z, rfl⟩ := Int.eq_ofNat_of_zero_le hx4.1
    exact ⟨⟨_, e0⟩, ⟨_, e1⟩, ⟨_, e2⟩, ⟨_, e3, hx3⟩, ⟨_, e4, by omega⟩⟩
  refine ⟨(List.range n).map fun i => (⟨strOf (F i 0), strOf (F i 1), strOf (F i 2), intOf (F i 3), (intOf (F i 4)).toNat, C i⟩, F i 5), ⟨ao, cap, by simp, by simpa using hm, fun i r hi => ?_⟩, ?_, ?_, ?_, ?_⟩
  · by_cases hil : i < n
    · simp [hil] at hi
      subst hi
      obtain ⟨⟨b, off, rfl, hc⟩, -⟩ := hF i hil
      obtain ⟨⟨s0, e0⟩, ⟨s1, e1⟩, ⟨s2, e2⟩, ⟨s3, e3, -⟩, ⟨s4, e4, -⟩⟩ := hk i hil
      refine ⟨b, off, rfl, fun j u hu => ?_⟩
      have hj : j < 6 := by
        have := (List.getElem?_eq_some_iff.1 hu).1
        simpa [actCells] using this
      rw [hc j hj, ← hu]
      match j, hj with
      | 0, _ => simp [actCells, e0, strOf]
      | 1, _ => simp [actCells, e1, strOf]
      | 2, _ => simp [actCells, e2, strOf]
      | 3, _ => simp [actCells, e3, intOf]
      | 4, _ => simp [actCells, e4, intOf]
      | 5, _ => simp [actCells]
    · simp [hil] at hi
  all_goals
    intro x hx
    simp only [List.mem_map, List.mem_range] at hx
    obtain ⟨i, hil, rfl⟩ := hx
    obtain ⟨-, -, -, ⟨s3, e3, h3, h3'⟩, ⟨s4, e4, h4⟩⟩ := hk i hil
  · exact hC i hil
  · simpa [e3, intOf] using h3
  · simpa [e3, intOf] using h3'
  · simpa [e4, intOf] using h4
end

theorem own : ownKnob Try.prog.godebug = none := by kernel_rfl
theorem laid : laidOutB Try.prog = true := by kernel_rfl
end Go.Proofs.Ytkapmpngglibjaa
