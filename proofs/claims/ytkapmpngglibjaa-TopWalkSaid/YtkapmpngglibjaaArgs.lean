/- What comes in: lists of changes and of acts, and whether they are light. Conditions: each contract's own premises. -/
import Derived.Test.YtkapmpngglibjaaBase
namespace Go.Proofs.Ytkapmpngglibjaa
open Go Go.RowKit

/-! ### what comes in: changes, acts -/

structure Chg where
  key : ByteArray
  val : ByteArray
  gone : Bool

def Chg.cells (c : Chg) : List Value := [.string c.key, .string c.val, .bool c.gone]

/-- A slice value reads as these elements, of so many cells each. -/
def SliceAt (w : World) (v : Value) (rows : List (List Value)) (size : Nat) : Prop :=
  ∃ ao cap, v = .slice ao rows.length cap ∧ rows.length ≤ maxLen ∧
    ∀ i r, rows[i]? = some r → ∃ b off, ao = some ⟨b, off, none⟩ ∧ ∀ j u, r[j]? = some u → w.cell? ⟨b, off + i * size + j, none⟩ = some u

def ChangesAt (w : World) (v : Value) (l : List Chg) : Prop := SliceAt w v (l.map Chg.cells) 3

theorem SliceAt.of_cells {w w' : World} {v : Value} {rows : List (List Value)} {size : Nat} (h : SliceAt w v rows size) (hc : ∀ a u, w.cell? a = some u → w'.cell? a = some u) : SliceAt w' v rows size := by
  obtain ⟨ao, cap, rfl, hm, hr⟩ := h
  refine ⟨ao, cap, rfl, hm, fun i r hi => ?_⟩
  obtain ⟨b, off, hb, hj⟩ := hr i r hi
  exact ⟨b, off, hb, fun j u hu => hc _ _ (hj j u hu)⟩

theorem SliceAt.below {w w' : World} {v : Value} {rows : List (List Value)} {size : Nat} (h : SliceAt w v rows size) (hb : Below w.heap.size w w') : SliceAt w' v rows size :=
  h.of_cells fun a _ hu => (hb.cell (World.block_lt_of_cell? w a hu)).trans hu

def lightChange (c : Chg) : Bool := c.key.size ≤ 60 && c.val.size ≤ 60
def lightChanges (l : List Chg) (most : Int) : Bool := decide ((l.length : Int) ≤ most) && l.all lightChange

set_option maxHeartbeats 400000 in
set_option maxRecDepth 100000 in
theorem lightChanges_any (v : Value) (l : List Chg) (most : Int) (w : World) (h : ChangesAt w v l) :
    Calls Try.prog 33 #[v, .int .i64 most] w (Ret (.bool (lightChanges l most)) fun w' => w = w') := by
  obtain ⟨ao, cap, rfl, hm, hr⟩ := h
  rw [List.length_map] at *
  obtain ⟨n, hn⟩ : ∃ n, n = l.length := ⟨_, rfl⟩
  rw [← hn] at hm ⊢
  have HN := Lib.hid hn
  clear hn
  unfold maxLen at hm
  have a0 : (0 : Int) ≤ (n : Int) := by omega
  have a1 : (n : Int) ≤ 9223372036854775807 := by omega
  by_cases hlong : most < (n : Int)
  · go_enter Try.func33, Try.ntmps33
    go_wp2
    go_ret
    refine Ret.of ?_ rfl
    have := HN.out
    simp [lightChanges]
    intro h
    omega
  · go_enter Try.func33, Try.ntmps33
    go_wp2
    go_loop [5] (fun i => ∃ k : Nat, k ≤ n ∧ i = .int .i64 (k : Int) ∧ (l.take k).all lightChange = true) (fun i => n - (intOf i).toNat)
    case atStart => exact ⟨0, by omega, rfl, rfl⟩
    case round =>
      obtain ⟨k, hk, rfl, hall⟩ := hrel
      by_cases hlt : k < n
      · obtain ⟨c, hc⟩ : ∃ c, l[k]? = some c := ⟨_, List.getElem?_eq_getElem (by rw [← HN.out]; exact hlt)⟩
        obtain ⟨b, off, rfl, hcell⟩ := hr k c.cells (by simp [hc])
        have c0 := hcell 0 _ rfl
        have c1 := hcell 1 _ rfl
        have b0 : (0 : Int) ≤ (k : Int) := by omega
        have b1 : (k : Int) < (n : Int) := by omega
        have HC := Lib.hid hc
        have HA := Lib.hid hall
        clear hcell hc hall hr
        simp only [Nat.add_zero] at c0
        obtain ⟨ck, cv, cg⟩ := c
        simp only at c0 c1
        have e1 : l.take (k + 1) = l.take k ++ [⟨ck, cv, cg⟩] := by rw [List.take_add_one, HC.out]; rfl
        have HE := Lib.hid e1
        clear e1
        by_cases h1 : (60 : Int) < (ck.size : Int)
        · go_wp2
          go_ret
          refine Ret.of ?_ rfl
          have : l.all lightChange = false := by
            rw [List.all_eq_false]
            exact ⟨_, List.mem_of_getElem? HC.out, by simp [lightChange]; omega⟩
          simp [lightChanges, this]
        by_cases h2 : (60 : Int) < (cv.size : Int)
        · go_wp2
          go_ret
          refine Ret.of ?_ rfl
          have : l.all lightChange = false := by
            rw [List.all_eq_false]
            exact ⟨_, List.mem_of_getElem? HC.out, by simp [lightChange]; omega⟩
          simp [lightChanges, this]
        · go_wp2
          go_round
          case rel =>
            refine ⟨k + 1, by omega, by go_num, ?_⟩
            rw [HE.out, List.all_append, HA.out]
            simp [lightChange]
            omega
          case measure => simp [intOf]; omega
      · obtain rfl : k = n := by omega
        have HA := Lib.hid hall
        clear hall hr
        go_wp2
        go_ret
        refine Ret.of ?_ rfl
        have h1 := HA.out
        have hN := HN.out
        rw [List.take_of_length_le (by omega)] at h1
        rw [lightChanges, h1, decide_eq_true (by omega)]
        rfl

structure ActM where
  kind : ByteArray
  s : ByteArray
  t : ByteArray
  n : Int
  k : Nat
  changes : List Chg

/-- An act with the slice value of its changes. -/
def actCells (x : ActM × Value) : List Value := [.string x.1.kind, .string x.1.s, .string x.1.t, .int .i64 x.1.n, .int .u64 (x.1.k : Int), x.2]

structure ActsAt (w : World) (v : Value) (l : List (ActM × Value)) : Prop where
  rows : SliceAt w v (l.map actCells) 6
  changes : ∀ x ∈ l, ChangesAt w x.2 x.1.changes
  n_lo : ∀ x ∈ l, -9223372036854775808 ≤ x.1.n
  n_hi : ∀ x ∈ l, x.1.n ≤ 9223372036854775807
  k_hi : ∀ x ∈ l, x.1.k < 2 ^ 64

theorem ActsAt.below {w w' : World} {v : Value} {l : List (ActM × Value)} (h : ActsAt w v l) (hb : Below w.heap.size w w') : ActsAt w' v l :=
  ⟨h.rows.below hb, fun x hx => (h.changes x hx).below hb, h.n_lo, h.n_hi, h.k_hi⟩

def lightAct (a : ActM) : Bool := a.s.size ≤ 200 && a.t.size ≤ 150 && lightChanges a.changes 16
def lightActs (l : List (ActM × Value)) (most : Int) : Bool := decide ((l.length : Int) ≤ most) && l.all fun x => lightAct x.1

set_option maxHeartbeats 400000 in
set_option maxRecDepth 100000 in
theorem lightActs_any (v : Value) (l : List (ActM × Value)) (most : Int) (w : World) (h : ActsAt w v l) :
    Calls Try.prog 12 #[v, .int .i64 most] w (Ret (.bool (lightActs l most)) fun w' => w = w') := by
  obtain ⟨⟨ao, cap, rfl, hm, hr⟩, hch, -, -, -⟩ := h
  rw [List.length_map] at *
  obtain ⟨n, hn⟩ : ∃ n, n = l.length := ⟨_, rfl⟩
  rw [← hn] at hm ⊢
  have HN := Lib.hid hn
  clear hn
  unfold maxLen at hm
  have a0 : (0 : Int) ≤ (n : Int) := by omega
  have a1 : (n : Int) ≤ 9223372036854775807 := by omega
  by_cases hlong : most < (n : Int)
  · go_enter Try.func12, Try.ntmps12
    go_wp2_with fail
    go_ret
    refine Ret.of ?_ rfl
    have := HN.out
    simp [lightActs]
    intro h
    omega
  · go_enter Try.func12, Try.ntmps12
    go_wp2_with fail
    go_loop [5] (fun i => ∃ k : Nat, k ≤ n ∧ i = .int .i64 (k : Int) ∧ ((l.take k).all fun x => lightAct x.1) = true) (fun i => n - (intOf i).toNat)
    case atStart => exact ⟨0, by omega, rfl, rfl⟩
    case round =>
      obtain ⟨k, hk, rfl, hall⟩ := hrel
      by_cases hlt : k < n
      · obtain ⟨c, hc⟩ : ∃ c, l[k]? = some c := ⟨_, List.getElem?_eq_getElem (by rw [← HN.out]; exact hlt)⟩
        obtain ⟨b, off, rfl, hcell⟩ := hr k (actCells c) (by simp [hc])
        have c1 := hcell 1 _ rfl
        have c2 := hcell 2 _ rfl
        have c5 := hcell 5 _ rfl
        have hcc := hch c (List.mem_of_getElem? hc)
        have b0 : (0 : Int) ≤ (k : Int) := by omega
        have b1 : (k : Int) < (n : Int) := by omega
        have HC := Lib.hid hc
        have HA := Lib.hid hall
        clear hcell hc hall hr hch
        obtain ⟨⟨kind, s, t, an, ak, ch⟩, cv⟩ := c
        simp only at c1 c2 c5 hcc
        have e1 : l.take (k + 1) = l.take k ++ [(⟨kind, s, t, an, ak, ch⟩, cv)] := by rw [List.take_add_one, HC.out]; rfl
        have HE := Lib.hid e1
        clear e1
        have no : lightAct ⟨kind, s, t, an, ak, ch⟩ = false → lightActs l most = false := fun h => by
          have : (l.all fun x => lightAct x.1) = false := by
            rw [List.all_eq_false]
            exact ⟨_, List.mem_of_getElem? HC.out, by simp [h]⟩
          simp [lightActs, this]
        have NO := Lib.hid no
        clear no
        by_cases h1 : (200 : Int) < (s.size : Int)
        · go_wp2_with fail
          go_ret
          refine Ret.of ?_ rfl
          rw [NO.out (by simp [lightAct]; omega)]; rfl
        by_cases h2 : (150 : Int) < (t.size : Int)
        · go_wp2_with fail
          go_ret
          refine Ret.of ?_ rfl
          rw [NO.out (by simp [lightAct]; omega)]; rfl
        · go_wp2_with fail
          refine (lightChanges_any cv ch 16 _ hcc).mono ?_
          rintro e w' ⟨rfl, rfl⟩
          by_cases h3 : lightChanges ch 16 = true
          · rw [h3]
            have H3 := Lib.hid h3
            clear h3
            go_wp2_with fail
            go_round
            case rel =>
              refine ⟨k + 1, by omega, by go_num, ?_⟩
              rw [HE.out, List.all_append, HA.out]
              have := H3.out
              simp [lightAct, this]
              omega
            case measure => simp [intOf]; omega
          · have h3' : lightChanges ch 16 = false := by simpa using h3
            rw [h3']
            have H3 := Lib.hid h3'
            clear h3 h3'
            go_wp2_with fail
            go_ret
            refine Ret.of ?_ rfl
            rw [NO.out (by simp [lightAct, H3.out])]; rfl
      · obtain rfl : k = n := by omega
        have HA := Lib.hid hall
        clear hall hr hch
        go_wp2_with fail
        go_ret
        refine Ret.of ?_ rfl
        have h1 := HA.out
        have hN := HN.out
        rw [List.take_of_length_le (by omega)] at h1
        rw [lightActs, h1, decide_eq_true (by omega)]
        rfl
end Go.Proofs.Ytkapmpngglibjaa
