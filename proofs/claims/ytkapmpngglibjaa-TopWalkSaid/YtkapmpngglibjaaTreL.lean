/- Entries behind a key, and how many there are: the closures, and what calls them. Conditions: each contract's own premises. -/
import Derived.Test.YtkapmpngglibjaaTreI
namespace Go.Proofs.Ytkapmpngglibjaa
open Go Go.RowKit

def Itm.ent (x : Itm) : List Value := [.string x.name, .int .i64 x.node]
def flE (l : List Itm) : List Value := (l.map Itm.ent).flatten
theorem flE_append (a b : List Itm) : flE (a ++ b) = flE a ++ flE b := by simp [flE]
theorem info59 : (Try.prog.info? 59).map (fun i => (i.zero, i.size, i.bytes)) = some (some (.agg #[.string ⟨#[]⟩, .int .i64 0]), 2, 24) := by kernel_rfl

/-- What has been gathered. -/
def JA (B ob mb : Nat) (many : Int) (o : List Itm) (w : World) : Prop :=
  B ≤ ob ∧ B ≤ mb ∧ ob ≠ mb ∧ w.heap[mb]? = some (.cells #[.int .i64 many] 3 (0, 0)) ∧ (o.length : Int) ≤ max many 0 ∧ ∃ sv, w.heap[ob]? = some (.cells #[sv] 60 (0, 0)) ∧ w.ownsRow B 59 2 sv o.length (flE o)

theorem JA.stable {B ob mb : Nat} {many : Int} {o : List Itm} {w w' : World} (h : JA B ob mb many o w) (hb : Below w.heap.size w w') : JA B ob mb many o w' := by
  obtain ⟨h1, h2, h3, h4, h5, sv, h7, h8⟩ := h
  exact ⟨h1, h2, h3, (hb.block _ (lt_of_heap h4)).trans h4, h5, sv, (hb.block _ (lt_of_heap h7)).trans h7, owns_frame h8 (Frame.of_below [] hb) (by simp)⟩

set_option maxHeartbeats 4000000 in
set_option maxRecDepth 100000 in
theorem closure74 (B ob mb : Nat) (many : Int) (o : List Itm) (x : Itm) (w : World) (hB : B ≤ w.heap.size) (hJ : JA B ob mb many o w) (hmn : many ≤ 900) :
    Calls Try.prog 74 #[.agg #[.string x.key, .string x.name, .int .i64 x.node], .pointer (some ⟨ob, 0, none⟩), .pointer (some ⟨mb, 0, none⟩)] w (RetV fun v w' => Below B w w' ∧ ((v = .bool true ∧ JA B ob mb many (o ++ [x]) w') ∨ (v = .bool false ∧ JA B ob mb many o w' ∧ many ≤ (o.length : Int)))) := by
  obtain ⟨i59, gi, gz0, gz1, gz2⟩ := info_parts info59
  have HJ := Lib.hid hJ
  have HB := Lib.hid (fun (_ : Unit) => hB)
  have HFA := Lib.hid (show Frame [] w (w.alloc (.cells #[.string x.key, .string x.name, .int .i64 x.node] 125)) from (Frame.refl [] w).alloc _)
  obtain ⟨h1, h2, h3, h4, h5, sv, h7, h8⟩ := hJ
  obtain ⟨ao, cap, rfl⟩ := ownsForm h8
  have m0 := cell_of (HFA.out.heap h4 (by simp)) 0
  have o0 := cell_of (HFA.out.heap h7 (by simp)) 0
  have zo := frozen_of h7
  simp only [List.getElem?_toArray, List.getElem?_cons_zero] at m0 o0
  have H8 := Lib.hid h8
  have HH := Lib.hid (fun (_ : Unit) => And.intro h1 (And.intro h2 (And.intro h3 (And.intro h4 (And.intro h5 h7)))))
  obtain ⟨n, hn⟩ : ∃ n, n = o.length := ⟨_, rfl⟩
  rw [← hn] at o0 H8 HH ⊢
  have HN := Lib.hid (fun (_ : Unit) => hn)
  have n0 : (0 : Int) ≤ (n : Int) := by omega
  have n1 : (n : Int) ≤ 900 := by omega
  clear h1 h2 h3 h4 h5 h7 h8 hB hn
  by_cases hm : many ≤ (n : Int)
  · have hm' : (many ≤ (n : Int)) = True := eq_true hm
    have HM := Lib.hid (fun (_ : Unit) => hm)
    clear hm
    go_enter Try.func74, Try.ntmps74
    go_wp2_with fail
    go_ret
    exact RetV.of ⟨(Below.refl B w).alloc (HB.out ()) _, .inr ⟨rfl, HJ.out.stable ((Below.refl _ w).alloc (Nat.le_refl _) _), HM.out ()⟩⟩
  · have hm' : (many ≤ (n : Int)) = False := eq_false hm
    have HM := Lib.hid (fun (_ : Unit) => hm)
    clear hm
    go_enter Try.func74, Try.ntmps74
    go_wp2_with (at_builtin; refine stopHere ?_)
    intro _
    have HF2 := Lib.hid (show Frame [] w ((w.alloc (.cells #[.string x.key, .string x.name, .int .i64 x.node] 125)).alloc (.cells #[.string x.name, .int .i64 x.node] 59)) from HFA.out.alloc _)
    have hown2 := owns_frame H8.out HF2.out (fun k hk hm => by cases hm)
    have hsz : (w.alloc (.cells #[.string x.key, .string x.name, .int .i64 x.node] 125)).heap.size = w.heap.size + 1 := size_alloc _ _
    have hnew : ((w.alloc (.cells #[.string x.key, .string x.name, .int .i64 x.node] 125)).alloc (.cells #[.string x.name, .int .i64 x.node] 59)).heap[w.heap.size + 1]? = some (.cells #[.string x.name, .int .i64 x.node] 59 (0, 0)) := by
      rw [← hsz]
      exact heap_alloc_new _ _
    have HNEW := Lib.hid hnew
    have HOWN2 := Lib.hid hown2
    have HSZ := Lib.hid (fun (_ : Unit) => hsz)
    clear hown2 hsz hnew
    refine wpList_append_any rfl (.tmp 9) (.tmp 12) 60 rfl B 59 i59 _ 2 24 Try.underlying60 gi gz0 gz1 gz2 rfl (by decide) _ n (flE o) rfl HOWN2.out (some ⟨w.heap.size + 1, 0, none⟩) 1 1 [.string x.name, .int .i64 x.node] rfl rfl ?_ (by simp [Value.oneCell']) (n + 1) rfl (by unfold maxLen; omega) (by omega) ?_ ?_
    · exact fun _ => ⟨_, rfl, fun j u hu => by
        rw [addr_add]
        exact (cell_of HNEW.out j).trans (by simpa using hu)⟩
    · have h1 := HB.out ()
      have h2 := HF2.out.size
      omega
    intro v' w5 ho hg _
    obtain ⟨ao5, cap5, rfl⟩ := ownsForm ho
    have hty : ∀ {k : Nat}, (Value.slice ao n cap).ownBlock = some k → k ≠ ob ∧ k ≠ mb := fun hk => by
      obtain ⟨cur, hc⟩ := owns_lt H8.out hk
      refine ⟨fun e => ?_, fun e => ?_⟩
      · rw [e, (HH.out ()).2.2.2.2.2] at hc
        simp at hc
      · rw [e, (HH.out ()).2.2.2.1] at hc
        simp at hc
    have hg' : ((w.alloc (.cells #[.string x.key, .string x.name, .int .i64 x.node] 125)).alloc (.cells #[.string x.name, .int .i64 x.node] 59)).grownBy w5 (Value.slice ao n cap).ownBlock := hg
    have hF5 : Frame (Value.slice ao n cap).ownBlock.toList w w5 := (HF2.out.mono (by simp)).grown hg' (fun k hk => .inl (by rw [hk]; simp))
    have hob : w5.heap[ob]? = some (.cells #[.slice ao n cap] 60 (0, 0)) := hF5.heap (HH.out ()).2.2.2.2.2 (fun hm => (hty (by simpa using hm)).1 rfl)
    have hmb : w5.heap[mb]? = some (.cells #[.int .i64 many] 3 (0, 0)) := hF5.heap (HH.out ()).2.2.2.1 (fun hm => (hty (by simpa using hm)).2 rfl)
    have hB5 : Below B w w5 := hF5.below (HB.out ()) (fun k hk => (World.ownsRow.lt H8.out k (by simpa using hk)).1)
    have HR := Lib.hid (show Below B w (w5.setCell ⟨ob, 0, none⟩ (.slice ao5 (n + 1) cap5)) ∧ JA B ob mb many (o ++ [x]) (w5.setCell ⟨ob, 0, none⟩ (.slice ao5 (n + 1) cap5)) from by
      have hne : ∀ k, (Value.slice ao5 (n + 1) cap5).ownBlock = some k → k ∉ [ob] := fun k hk hm => by
        obtain ⟨cur, hc⟩ := owns_lt ho hk
        rw [List.mem_singleton.1 hm, hob] at hc
        simp at hc
      have hfo : Frame [ob] w5 (w5.setCell ⟨ob, 0, none⟩ (.slice ao5 (n + 1) cap5)) := (Frame.refl [ob] w5).set (p := ⟨ob, 0, none⟩) (.inl (by simp)) _
      refine ⟨hB5.setCell (p := ⟨ob, 0, none⟩) (HH.out ()).1 _, (HH.out ()).1, (HH.out ()).2.1, (HH.out ()).2.2.1, hfo.heap hmb (fun hm => (HH.out ()).2.2.1 (List.mem_singleton.1 hm).symm), ?_, .slice ao5 (n + 1) cap5, heap_set_same 0 _ hob, ?_⟩
      · rw [List.length_append, ← HN.out ()]
        have := HM.out ()
        simp only [List.length_cons, List.length_nil]
        omega
      · rw [List.length_append, ← HN.out (), flE_append]
        exact owns_frame ho hfo hne)
    have zo5 := frozen_of hob
    have o5 := cell_of hob 0
    clear ho hg hg' hF5 hob hmb hB5 hty zo
    go_wp2_with fail
    go_ret
    exact RetV.of ⟨HR.out.1, .inl ⟨rfl, HR.out.2⟩⟩

/-- How many have been counted. -/
def JM (B cb : Nat) (o : List Itm) (w : World) : Prop := B ≤ cb ∧ w.heap[cb]? = some (.cells #[.int .i64 (IntKind.i64.wrap (o.length : Int))] 3 (0, 0))

theorem wrap_succ (n : Int) : IntKind.i64.wrap (IntKind.i64.wrap n + 1) = IntKind.i64.wrap (n + 1) := by
  simp only [IntKind.wrap]
  simp [IntKind.signed, IntKind.bits]
  omega

set_option maxHeartbeats 1000000 in
theorem closure75 (B cb : Nat) (o : List Itm) (x : Itm) (w : World) (hB : B ≤ w.heap.size) (hJ : JM B cb o w) :
    Calls Try.prog 75 #[.agg #[.string x.key, .string x.name, .int .i64 x.node], .pointer (some ⟨cb, 0, none⟩)] w (RetV fun v w' => Below B w w' ∧ v = .bool true ∧ JM B cb (o ++ [x]) w') := by
  obtain ⟨h1, h3⟩ := hJ
  have HFA := Lib.hid (show Below B w (w.alloc (.cells #[.string x.key, .string x.name, .int .i64 x.node] 125)) from (Below.refl B w).alloc hB _)
  have hc := heap_alloc_old w (.cells #[.string x.key, .string x.name, .int .i64 x.node] 125) (lt_of_heap h3)
  rw [h3] at hc
  have c0 := cell_of hc 0
  have z0 := frozen_of hc
  simp only [List.getElem?_toArray, List.getElem?_cons_zero] at c0
  have HC := Lib.hid (And.intro hc h1)
  have HN := Lib.hid (wrap_succ (o.length : Int))
  generalize hv : IntKind.i64.wrap (o.length : Int) = v at *
  clear h1 h3 hc hB hv
  go_enter Try.func75, Try.ntmps75
  go_wp2_with fail
  go_ret
  refine RetV.of ⟨HFA.out.setCell (p := ⟨cb, 0, none⟩) HC.out.2 _, rfl, HC.out.2, ?_⟩
  have h := heap_set_same 0 (.int .i64 (IntKind.i64.wrap (v + 1))) HC.out.1
  rw [List.length_append, show ((o.length + [x].length : Nat) : Int) = (o.length : Int) + 1 by simp, ← HN.out]
  have e : wrap64 (v + 1) = IntKind.i64.wrap (v + 1) := by
    simp only [wrap64, IntKind.wrap, IntKind.signed, IntKind.bits]
    simp
    omega
  rw [e]
  exact h

end Go.Proofs.Ytkapmpngglibjaa
