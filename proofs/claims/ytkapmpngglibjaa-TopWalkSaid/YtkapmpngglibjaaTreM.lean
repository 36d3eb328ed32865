/- After, Many, New of a tree. Conditions: each contract's own premises. -/
import Derived.Test.YtkapmpngglibjaaTreJ
import Derived.Test.YtkapmpngglibjaaTreK
import Derived.Test.YtkapmpngglibjaaTreL
namespace Go.Proofs.Ytkapmpngglibjaa
open Go Go.RowKit

theorem JM.stable {B cb : Nat} {o : List Itm} {w w' : World} (h : JM B cb o w) (hb : Below w.heap.size w w') : JM B cb o w' :=
  ⟨h.1, (hb.block _ (lt_of_heap h.2)).trans h.2⟩

theorem each74 (B ob mb : Nat) (many : Int) (hm : many ≤ 900) : EachOK 74 #[ptrV ob, ptrV mb] B (JA B ob mb many) (fun o => many ≤ (o.length : Int)) :=
  ⟨fun _ _ _ h hb => h.stable hb, fun o x w hB hJ => closure74 B ob mb many o x w hB hJ hm⟩
theorem each75 (B cb : Nat) : EachOK 75 #[ptrV cb] B (JM B cb) (fun _ => False) :=
  ⟨fun _ _ _ h hb => h.stable hb, fun o x w hB hJ => (closure75 B cb o x w hB hJ).mono fun e w' he => by
    obtain ⟨v, rfl, h1, h2, h3⟩ := he
    exact RetV.of ⟨h1, .inl ⟨h2, h3⟩⟩⟩

/-- So many entries behind a key. -/
def tk (key : ByteArray) (many : Int) (L : List Itm) : List Itm := (gtr key L).take many.toNat

def AftRes (w : World) (key : ByteArray) (many : Int) (L : List Itm) (v : Value) (w' : World) : Prop :=
  Below w.heap.size w w' ∧ w'.ownsRow w.heap.size 59 2 v (tk key many L).length (flE (tk key many L))

set_option maxHeartbeats 4000000 in
set_option maxRecDepth 100000 in
theorem after_any (H tb : Nat) (w : World) (L : List Itm) (X : List Nat) (key : ByteArray) (many : Int) (hT : TreeAt H w tb L X) (hr : RisI L) (hm : many ≤ 900) :
    Calls Try.prog 29 #[ptrV tb, .string key, .int .i64 many] w (RetV (AftRes w key many L)) := by
  obtain ⟨rb, Xr, ht, hN, hX, htX⟩ := hT
  have HT := Lib.hid ht
  have c0 := cell_of (heap_alloc_old (w.alloc (.cells #[.int .i64 many] 3)) (.cells #[.slice none 0 0] 60) (by rw [size_alloc]; have := lt_of_heap ht; omega) |>.trans ((heap_alloc_old w (.cells #[.int .i64 many] 3) (lt_of_heap ht)).trans ht)) 0
  simp only [List.getElem?_toArray, List.getElem?_cons_zero] at c0
  obtain ⟨wa, hwa⟩ : ∃ wa, wa = (w.alloc (.cells #[.int .i64 many] 3)).alloc (.cells #[.slice none 0 0] 60) := ⟨_, rfl⟩
  have hB0 : Below w.heap.size w wa := by
    rw [hwa]
    exact ((Below.refl _ w).alloc (Nat.le_refl _) _).alloc (by rw [size_alloc]; omega) _
  have hNa : NodeAt H wa rb L Xr := NodeAt.below hN hB0 (NodeAt.lt H _ _ _ hN)
  have hJ : JA w.heap.size (w.heap.size + 1) w.heap.size many [] wa := by
    have hsz := size_alloc w (.cells #[.int .i64 many] 3)
    refine ⟨by omega, Nat.le_refl _, by omega, ?_, by simp; omega, .slice none 0 0, ?_, ?_⟩
    · rw [hwa]
      exact (heap_alloc_old _ _ (by omega)).trans (heap_alloc_new _ _)
    · rw [hwa, ← hsz]
      exact heap_alloc_new _ _
    · exact World.ownsRow_nil _ _ _ _
  have hwk := walkA (w.heap.size + 1) w.heap.size w.heap.size _ _ (each74 w.heap.size (w.heap.size + 1) w.heap.size many hm) key H rb L Xr wa [] hNa hr (NodeAt.lt H _ _ _ hN) hB0.size hJ
  rw [hwa] at hwk
  have HW := Lib.hid hwk
  have HB0 := Lib.hid (fun (_ : Unit) => And.intro hwa hB0)
  clear hNa hJ hwk hr hN htX hX hB0 hwa ht
  unfold ptrV at c0 ⊢
  go_enter Try.func29, Try.ntmps29
  go_wp2_with fail
  refine HW.out.mono ?_
  clear HW
  rintro _ w1 ⟨v1, rfl, hB1, hres⟩
  obtain ⟨o, hJ, htk⟩ : ∃ o, JA w.heap.size (w.heap.size + 1) w.heap.size many o w1 ∧ o = tk key many L := by
    rcases hres with ⟨-, h⟩ | ⟨-, P, S, h1, h, h2⟩
    · refine ⟨_, h, ?_⟩
      have h5 := h.2.2.2.2.1
      rw [List.nil_append] at h5 ⊢
      rw [tk, List.take_of_length_le (by omega)]
    · refine ⟨_, h, ?_⟩
      have h5 := h.2.2.2.2.1
      rw [List.nil_append] at h5 h2 ⊢
      rw [tk, h1, List.take_append_of_le_length (by omega), List.take_of_length_le (by omega)]
  obtain ⟨-, -, -, -, -, sv, h7, h8⟩ := hJ
  rw [htk] at h8
  have HR := Lib.hid (show AftRes w key many L sv w1 from ⟨(show Below w.heap.size w _ from (HB0.out ()).1 ▸ (HB0.out ()).2).trans hB1, h8⟩)
  obtain ⟨ao, cap, rfl⟩ := ownsForm h8
  have c1 := cell_of h7 0
  simp only [List.getElem?_toArray, List.getElem?_cons_zero] at c1
  clear hB1 hres htk h7 h8
  go_wp2_with fail
  go_ret
  exact RetV.of HR.out

def CntRes (w : World) (n : Nat) (v : Value) (w' : World) : Prop := v = .int .i64 (n : Int) ∧ Below w.heap.size w w'

theorem gtr_empty (L : List Itm) (h : ∀ x ∈ L, x.key.toList ≠ []) : gtr ⟨#[]⟩ L = L := gtr_all fun x hx => by
  have := h x hx
  unfold lessK
  rw [show (⟨#[]⟩ : ByteArray).toList = [] from by kernel_rfl]
  cases hk : x.key.toList with
  | nil => exact absurd hk this
  | cons a b => rfl

set_option maxHeartbeats 4000000 in
set_option maxRecDepth 100000 in
theorem many_any (H tb : Nat) (w : World) (L : List Itm) (X : List Nat) (hT : TreeAt H w tb L X) (hr : RisI L) (hk : ∀ x ∈ L, x.key.toList ≠ []) (hm : L.length ≤ 900) :
    Calls Try.prog 30 #[ptrV tb] w (RetV (CntRes w L.length)) := by
  obtain ⟨rb, Xr, ht, hN, hX, htX⟩ := hT
  have hold := (heap_alloc_old w (.cells #[.int .i64 0] 3) (lt_of_heap ht)).trans ht
  obtain ⟨wa, hwa⟩ : ∃ wa, wa = w.alloc (.cells #[.int .i64 0] 3) := ⟨_, rfl⟩
  have hB0 : Below w.heap.size w wa := by
    rw [hwa]
    exact (Below.refl _ w).alloc (Nat.le_refl _) _
  have hNa : NodeAt H wa rb L Xr := NodeAt.below hN hB0 (NodeAt.lt H _ _ _ hN)
  have c0 := cell_of hold 0
  simp only [List.getElem?_toArray, List.getElem?_cons_zero] at c0
  have hJ : JM w.heap.size w.heap.size [] wa := by
    refine ⟨Nat.le_refl _, ?_⟩
    rw [hwa]
    exact heap_alloc_new _ _
  have hwk := walkM w.heap.size w.heap.size _ _ (each75 w.heap.size w.heap.size) ⟨#[]⟩ H rb L Xr wa [] hNa hr (NodeAt.lt H _ _ _ hN) hB0.size hJ
  rw [hwa] at hwk
  have HW := Lib.hid hwk
  have HB0 := Lib.hid (fun (_ : Unit) => And.intro hwa hB0)
  clear hNa hJ hwk hr hN htX hX hB0 hwa hold ht
  unfold ptrV at c0 ⊢
  go_enter Try.func30, Try.ntmps30
  go_wp2_with fail
  refine HW.out.mono ?_
  clear HW
  rintro _ w1 ⟨v1, rfl, hB1, hres⟩
  obtain ⟨-, h2⟩ : JM w.heap.size w.heap.size L w1 := by
    rcases hres with ⟨-, h⟩ | ⟨-, P, S, -, -, h2⟩
    · rw [List.nil_append, gtr_empty L hk] at h
      exact h
    · exact h2.elim
  have hw : IntKind.i64.wrap (L.length : Int) = (L.length : Int) := by
    simp only [IntKind.wrap, IntKind.signed, IntKind.bits]
    simp
    omega
  rw [hw] at h2
  have HR := Lib.hid (show CntRes w L.length (.int .i64 (L.length : Int)) w1 from ⟨rfl, (show Below w.heap.size w _ from (HB0.out ()).1 ▸ (HB0.out ()).2).trans hB1⟩)
  have c1 := cell_of h2 0
  simp only [List.getElem?_toArray, List.getElem?_cons_zero] at c1
  clear hB1 hres h2 hw hk
  go_wp2_with fail
  go_ret
  exact RetV.of HR.out

theorem TreeAt.base {w : World} {nb : Nat} (h : w.heap[nb]? = some (.cells #[.slice none 0 0, .slice none 0 0] 119 (0, 0))) : NodeAt 1 w nb [] [nb] :=
  ⟨.slice none 0 0, .slice none 0 0, [], [], h, .inl (World.ownsRow_nil _ _ _ _), .inl (World.ownsRow_nil _ _ _ _), by simp, .inl ⟨rfl, rfl⟩, (fun k hk => by cases hk), rfl, by simp⟩

def NewRes (w : World) (v : Value) (w' : World) : Prop := ∃ tb X, v = ptrV tb ∧ TreeAt 1 w' tb [] X ∧ Below w.heap.size w w' ∧ ∀ k ∈ X, w.heap.size ≤ k

set_option maxHeartbeats 4000000 in
theorem new_any (w : World) : Calls Try.prog 27 #[] w (RetV (NewRes w)) := by
  go_enter Try.func27, Try.ntmps27
  go_wp2_with fail
  have hsz := size_alloc w (.cells #[.slice none 0 0, .slice none 0 0] 119)
  have hB : Below w.heap.size w ((w.alloc (.cells #[.slice none 0 0, .slice none 0 0] 119)).alloc (.cells #[ptrV w.heap.size] 121)) := ((Below.refl _ w).alloc (Nat.le_refl _) _).alloc (by omega) _
  have h1 := TreeAt.base ((heap_alloc_old (w.alloc (.cells #[.slice none 0 0, .slice none 0 0] 119)) (.cells #[ptrV w.heap.size] 121) (by omega)).trans (heap_alloc_new w (.cells #[.slice none 0 0, .slice none 0 0] 119)))
  have h2 := heap_alloc_new (w.alloc (.cells #[.slice none 0 0, .slice none 0 0] 119)) (.cells #[ptrV w.heap.size] 121)
  rw [hsz] at h2
  have HR := Lib.hid (show NewRes w (ptrV (w.heap.size + 1)) _ from ⟨w.heap.size + 1, _, rfl, ⟨w.heap.size, _, h2, h1, rfl, by simp⟩, hB, by simp⟩)
  clear hsz hB h1 h2
  go_ret
  exact RetV.of HR.out

end Go.Proofs.Ytkapmpngglibjaa
