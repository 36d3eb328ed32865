/- From the row's laid variables to what the walks ask of the two tables. Plain facts on readings. Conditions: each law's own premises. -/
import Derived.Test.YtkapmpngglibjaaDoorDQ
import Derived.Lib.LaidU8T
namespace Go.Proofs.YtkapmpngglibjaaDoor
open Go Go.RowKit Go.Lib

def litV : Lit → Value
  | .int k z => .int k z
  | .string l => .string ⟨l.toArray⟩
  | _ => undef

/-- A type whose values are read off one cell. -/
def OneLit (P : Program) (u : TypeId) : Prop := ∀ (w : World) (n : Nat) (cs : List Value) (l : Lit) (p : List MemPlace),
  DataW.trod (fun _ => ()) P w 0 (fun _ => true) false n u cs = some (.lit l, p) → cs = [litV l]

theorem oneLit_int {P : Program} {u : TypeId} {k : IntKind} (h : P.underlying u = some (.int k)) : OneLit P u := fun w n cs l p hd => by
  obtain ⟨z, rfl, hx, -⟩ := DataW.trod_int h hd
  have := congrArg Prod.fst hx
  simp only [DataW.lit.injEq] at this
  rw [this]
  rfl
theorem oneLit_string {P : Program} {u : TypeId} (h : P.underlying u = some .string) : OneLit P u := fun w n cs l p hd => by
  obtain ⟨s, rfl, hx, -⟩ := DataW.trod_string h hd
  have := congrArg Prod.fst hx
  simp only [DataW.lit.injEq] at this
  rw [this]
  rfl

theorem pairs_of_reads {P : Program} {w : World} {name : String} {g : Nat} {t e u v : TypeId} {fs : Array Field} {f0 f1 : Field} {rows : List (Lit × Lit)} (hn : P.globalNamed name = some g) (hy : (P.globals[g]?).map (·.type) = some t)
    (ht : P.underlying t = some (.slice e)) (he : P.underlying e = some (.struct fs)) (hfs : fs = #[f0, f1]) (h0 : f0.type = u ∧ f0.offset = 0) (h1 : f1.type = v ∧ f1.offset = 1) (hc : P.cellsOf e = 2) (hcu : P.cellsOf u = 1) (hcv : P.cellsOf v = 1)
    (hu : OneLit P u) (hv : OneLit P v) (hl : 0 < rows.length) (h : VarReads P w name (.slice (rows.map fun r => .agg [.lit r.1, .lit r.2]) [])) :
    ∃ R o cap, w.cell? ⟨g, 0, none⟩ = some (.slice (some ⟨R, o, none⟩) rows.length cap) ∧
      ∀ (i : Nat) (r : Lit × Lit), rows[i]? = some r → w.cell? ⟨R, o + i * 2, none⟩ = some (litV r.1) ∧ w.cell? ⟨R, o + i * 2 + 1, none⟩ = some (litV r.2) := by
  subst hfs
  obtain ⟨h0, o0⟩ := h0
  obtain ⟨h1, o1⟩ := h1
  obtain ⟨g', t', cs, fuel, p, hg, hty, hvar, hd⟩ := h
  obtain rfl := Option.some.inj (hn.symm.trans hg)
  obtain rfl := Option.some.inj (hy.symm.trans hty)
  rcases DataW.trod_slice ht hd with ⟨_, hx⟩ | ⟨a, len, cap, el, rs, m, rfl, hcs, hx, _, hlc, _, hel, helem, hsp, _⟩
  · cases hx
  have e0 := congrArg Prod.fst hx
  simp only [DataW.slice.injEq] at e0
  obtain ⟨eE, eR⟩ := e0
  have hlen : len = rows.length := by
    have := congrArg List.length eE
    simp at this
    omega
  have hcell : ∀ (i : Nat) (r : Lit × Lit), rows[i]? = some r → w.cell? (a.add (i * 2) |>.add 0) = some (litV r.1) ∧ w.cell? (a.add (i * 2) |>.add 1) = some (litV r.2) := by
    intro i r hr
    have hi := (List.getElem?_eq_some_iff.1 hr).1
    have q1 := helem i (by omega)
    rw [hc] at q1
    obtain ⟨b, hb⟩ : ∃ b, el[i]? = some b := ⟨el[i]'(by omega), List.getElem?_eq_getElem (by omega)⟩
    rw [hb] at q1
    obtain ⟨ce, hce, hte⟩ := Option.bind_eq_some_iff.1 q1
    have hb1 : b.1 = .agg [.lit r.1, .lit r.2] := by
      have := congrArg (·[i]?) eE
      simp [hb, hr] at this
      exact this.symm
    obtain ⟨xs, n, rfl, hx2, hcl, hxl, hall⟩ := DataW.trod_struct he hte
    have hxs : xs.map (·.1) = [.lit r.1, .lit r.2] := by
      have := congrArg Prod.fst hx2
      rw [hb1] at this
      simp only [DataW.agg.injEq] at this
      exact this.symm
    have a0 := hall 0 f0 rfl
    have a1 := hall 1 f1 rfl
    rw [h0, o0, hcu] at a0
    rw [h1, o1, hcv] at a1
    obtain ⟨x0, x1, rfl⟩ : ∃ x0 x1, xs = [x0, x1] := by
      match xs, hxl with
      | [x0, x1], _ => exact ⟨x0, x1, rfl⟩
    simp only [List.map_cons, List.map_nil, List.cons.injEq, and_true] at hxs
    obtain ⟨x0a, x0b⟩ := x0
    obtain ⟨x1a, x1b⟩ := x1
    obtain ⟨rfl, rfl⟩ := hxs
    have c0 := hu _ _ _ _ _ a0
    have c1 := hv _ _ _ _ _ a1
    obtain ⟨_, hlen2, hcc⟩ := World.cells?_some hce
    have d0 := hcc 0 (by omega)
    have d1 := hcc 1 (by omega)
    rw [d0, d1]
    match ce, hlen2 with
    | [y0, y1], _ =>
      simp only [List.drop_zero, List.take_succ_cons, List.take_zero, List.drop_succ_cons, List.cons.injEq, and_true] at c0 c1
      rw [c0, c1]
      exact ⟨rfl, rfl⟩
  obtain ⟨R, o, sR⟩ := a
  obtain rfl : sR = none := by
    obtain ⟨r, hr⟩ : ∃ r, rows[0]? = some r := ⟨rows[0], List.getElem?_eq_getElem hl⟩
    have h00 := (hcell 0 r hr).1
    have : ((Addr.add ⟨R, o, sR⟩ (0 * 2)).add 0) = ⟨R, o, sR⟩ := by simp [Addr.add]
    rw [this] at h00
    exact cell_spot h00
  refine ⟨R, o, cap, ?_, fun i r hr => ?_⟩
  · rw [World.var?_cell hg hvar 0, ← Array.getElem?_toList, hcs, hlen]
    rfl
  · have := hcell i r hr
    rwa [Addr.add_lit, Addr.add_lit, Addr.add_lit] at this

theorem marksAt_of {w : World} (h : VarReads Tryd.prog w "jobcase/sign.marks" Rows.laid_jobcase_sign_marks) : MarksAt w.heap.size w := by
  obtain ⟨R, o, cap, h1, h2⟩ := pairs_of_reads (g := 0) (t := 38) (e := 39) (u := 21) (v := 3) (rows := marksL.map fun m => (Lit.int .i32 m.1, Lit.int .i64 m.2)) (by kernel_rfl) (by kernel_rfl) Tryd.underlying38 Tryd.underlying39 rfl ⟨rfl, rfl⟩ ⟨rfl, rfl⟩
    (by kernel_rfl) (by kernel_rfl) (by kernel_rfl) (oneLit_int Tryd.underlying21) (oneLit_int Tryd.underlying3) (by decide) h
  have hc : ∀ (i : Nat) (m : Int × Int), marksL[i]? = some m → w.cell? ⟨R, o + i * 2, none⟩ = some (.int .i32 m.1) ∧ w.cell? ⟨R, o + i * 2 + 1, none⟩ = some (.int .i64 m.2) := fun i m hm =>
    h2 i (Lit.int .i32 m.1, Lit.int .i64 m.2) (by rw [List.getElem?_map, hm]; rfl)
  have hb0 : 0 < w.heap.size := World.block_lt_of_cell? w _ h1
  exact ⟨R, o, cap, hb0, World.block_lt_of_cell? w _ (hc 0 _ rfl).1, h1, hc⟩

theorem wholeAt_of {w : World} (h : VarReads Tryd.prog w "jobcase/sign.whole" Rows.laid_jobcase_sign_whole) : WholeAt w.heap.size w := by
  obtain ⟨R, o, cap, h1, h2⟩ := pairs_of_reads (g := 3) (t := 52) (e := 53) (u := 9) (v := 9) (rows := wholeL.map fun m => (Lit.string m.1, Lit.string m.2)) (by kernel_rfl) (by kernel_rfl) Tryd.underlying52 Tryd.underlying53 rfl ⟨rfl, rfl⟩ ⟨rfl, rfl⟩
    (by kernel_rfl) (by kernel_rfl) (by kernel_rfl) (oneLit_string Tryd.underlying9) (oneLit_string Tryd.underlying9) (by decide) h
  have hc : ∀ (i : Nat) (m : List UInt8 × List UInt8), wholeL[i]? = some m → w.cell? ⟨R, o + i * 2, none⟩ = some (.string ⟨m.1.toArray⟩) ∧ w.cell? ⟨R, o + i * 2 + 1, none⟩ = some (.string ⟨m.2.toArray⟩) := fun i m hm =>
    h2 i (Lit.string m.1, Lit.string m.2) (by rw [List.getElem?_map, hm]; rfl)
  have hb0 : 3 < w.heap.size := World.block_lt_of_cell? w _ h1
  exact ⟨R, o, cap, hb0, World.block_lt_of_cell? w _ (hc 0 _ rfl).1, h1, hc⟩

end Go.Proofs.YtkapmpngglibjaaDoor
