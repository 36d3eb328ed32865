/- A tree of entries whose names are their keys: what it tells behind each. Conditions: each contract's own premises. -/
import Derived.Test.YtkapmpngglibjaaTreH
import Derived.Test.YtkapmpngglibjaaTreM
import Derived.Test.YtkapmpngglibjaaTreN
import Derived.WalkSmall
namespace Go.Proofs.Ytkapmpngglibjaa
open Go Go.RowKit

def Good (L : List Itm) : Prop := ∀ x ∈ L, x.key.toList ≠ [] ∧ x.name = x.key

structure WalkSt (B : Nat) (wr : World) (tb : Nat) (L : List Itm) : Prop where
  tree : ∃ H X, TreeAt H wr tb L X ∧ ∀ k ∈ X, B ≤ k
  ris : RisI L
  good : Good L

theorem WalkSt.later {B : Nat} {wr w2 : World} {tb : Nat} {L : List Itm} (h : WalkSt B wr tb L) (hb : Below wr.heap.size wr w2) : WalkSt B w2 tb L := by
  obtain ⟨⟨H, X, h1, h2⟩, h3, h4⟩ := h
  exact ⟨⟨H, X, h1.frame (Frame.of_below [] hb) (by simp), h2⟩, h3, h4⟩

def PutSt (B : Nat) (wr : World) (tb : Nat) (L : List Itm) (x : Itm) (w2 : World) : Prop := ∃ L', WalkSt B w2 tb L' ∧ InsRel L x L' ∧ Below B wr w2

theorem st_put (B : Nat) (wr : World) (tb : Nat) (L : List Itm) (k : ByteArray) (nd : Int) (h : WalkSt B wr tb L) (hB : B ≤ wr.heap.size) (hk : k.toList ≠ []) :
    Calls Try.prog 28 #[ptrV tb, .string k, .agg #[.string k, .int .i64 nd]] wr (Ret (.tuple #[]) (PutSt B wr tb L ⟨k, k, nd⟩)) := by
  obtain ⟨⟨H, X, h1, h2⟩, h3, h4⟩ := h
  refine (put_any H tb wr L X k k nd h1 h3).mono ?_
  rintro e w2 ⟨he, L', X', H', ht, hi, hf, hx⟩
  refine ⟨he, L', ⟨⟨H', X', ht, fun q hq => ?_⟩, hi.ris h3, fun x hx => ?_⟩, hi, hf.below hB h2⟩
  · rcases hx q hq with h | h
    · exact h2 q h
    · omega
  · rcases hi.mem x hx with rfl | h
    · exact ⟨hk, rfl⟩
    · exact h4 x h

theorem st_after (B : Nat) (wr : World) (tb : Nat) (L : List Itm) (key : ByteArray) (many : Int) (h : WalkSt B wr tb L) (hm : many ≤ 900) :
    Calls Try.prog 29 #[ptrV tb, .string key, .int .i64 many] wr (RetV (AftRes wr key many L)) := by
  obtain ⟨⟨H, X, h1, h2⟩, h3, h4⟩ := h
  exact after_any H tb wr L X key many h1 h3 hm

theorem st_many (B : Nat) (wr : World) (tb : Nat) (L : List Itm) (h : WalkSt B wr tb L) (hm : L.length ≤ 900) :
    Calls Try.prog 30 #[ptrV tb] wr (RetV (CntRes wr L.length)) := by
  obtain ⟨⟨H, X, h1, h2⟩, h3, h4⟩ := h
  exact many_any H tb wr L X h1 h3 (fun x hx => (h4 x hx).1) hm

/-- The name of the last of the first j, or none. -/
def afterOf (L : List Itm) (j : Nat) : ByteArray := if j = 0 then ⟨#[]⟩ else (L[j - 1]?.map (·.name)).getD ⟨#[]⟩

theorem gtr_afterOf {L : List Itm} (hr : RisI L) (hg : Good L) (j : Nat) (hj : j ≤ L.length) : gtr (afterOf L j) L = L.drop j := by
  cases j with
  | zero => exact gtr_empty L (fun x hx => (hg x hx).1)
  | succ j =>
    have hlt : j < L.length := by omega
    obtain ⟨x, hx⟩ : ∃ x, L[j]? = some x := ⟨_, List.getElem?_eq_getElem hlt⟩
    have he : afterOf L (j + 1) = x.key := by
      rw [afterOf, if_neg (by omega), Nat.add_sub_cancel, hx]
      exact (hg x (List.mem_of_getElem? hx)).2
    obtain ⟨g1, -⟩ := list_at L j x hx
    rw [he]
    conv => lhs; rw [g1]
    rw [g1] at hr
    rw [gtr_app, gtr_none (fun y hy hl => not_both hl (hr.app.2.2 y hy x (by simp))), List.nil_append, ← List.singleton_append, gtr_app, gtr_none (fun y hy hl => by rw [List.mem_singleton.1 hy] at hl; exact not_self hl), List.nil_append]
    exact gtr_all fun y hy => hr.app.2.1.cons.2 y hy

theorem tk_afterOf {L : List Itm} (hr : RisI L) (hg : Good L) (j : Nat) (hj : j ≤ L.length) (n : Int) : tk (afterOf L j) n L = (L.drop j).take n.toNat := by
  rw [tk, gtr_afterOf hr hg j hj]

theorem and7 (m : Int) : 0 ≤ bits BinOp.and IntKind.i64 m 7 ∧ bits BinOp.and IntKind.i64 m 7 ≤ 7 := by
  obtain ⟨n, hn⟩ : ∃ n : Nat, n = (BitVec.ofInt 64 m &&& BitVec.ofInt 64 7).toNat := ⟨_, rfl⟩
  have h : n ≤ 7 := by
    rw [hn, BitVec.toNat_and]
    exact Nat.and_le_right
  have e : bits BinOp.and IntKind.i64 m 7 = IntKind.i64.wrap (n : Int) := by rw [hn]; rfl
  rw [e]
  simp only [IntKind.wrap, IntKind.signed, IntKind.bits]
  simp
  omega

theorem ins_nil {x : Itm} {L : List Itm} (h : InsRel [] x L) : L = [x] := by
  rcases h with ⟨P, S, y, h1, -, -⟩ | ⟨P, S, h1, rfl, -, -⟩
  · cases P <;> cases h1
  · obtain ⟨rfl, rfl⟩ := List.append_eq_nil_iff.1 h1.symm
    rfl

end Go.Proofs.Ytkapmpngglibjaa
