/- Several texts in one: what each begins with says what it shows. Conditions: each law's own premises. -/
import Derived.Test.YtkapmpngglibjaaQ18

/- What is read of a log behind a deed that was added, or was being added: plain. No condition beyond each law's own. -/
namespace Go.Proofs.Ytkapmpngglibjaa
open Go Go.RowKit

/-! ### what is read of a log behind that -/

def secsL (S : List ByteArray) (fr many : Nat) : List ByteArray := (S.drop fr).take many
theorem secs_eq (D : DM) (fr many : Nat) : secs D fr many = secsL D.now fr many := rfl

theorem secsL_get (S : List ByteArray) (fr many j : Nat) (h : j < many) : (secsL S fr many)[j]? = S[fr + j]? := by
  rw [secsL, List.getElem?_take_of_lt h, List.getElem?_drop]

theorem secsL_length (S : List ByteArray) (fr many : Nat) (h : fr + many ≤ S.length) : (secsL S fr many).length = many := by
  rw [secsL, List.length_take, List.length_drop]
  omega

theorem secsL_take {S S' : List ByteArray} {fr many next : Nat} (hn : next ≤ many) (h : ∀ k, k < fr + next → S'[k]? = S[k]?) : (secsL S' fr many).take next = (secsL S fr many).take next := by
  apply List.ext_getElem?
  intro j
  rw [List.getElem?_take, List.getElem?_take]
  split
  · rename_i hj
    rw [secsL_get _ _ _ _ (by omega), secsL_get _ _ _ _ (by omega)]
    exact h _ (by omega)
  · rfl

/-- No sector from 'next' on closes a deed. -/
def NoC (L : LM) (S : List ByteArray) : Prop := ∀ (j : Nat) (s : ByteArray), L.next ≤ j → j < L.many → S[L.from_ + j]? = some s → ¬ closedS s (L.first + j)

/-- What is true of a log on these sectors: it has these deeds. -/
structure LogOf (L : LM) (S : List ByteArray) (ds : List (List Chg)) : Prop where
  fits : L.from_ + L.many ≤ S.length
  first : 1 ≤ L.first
  small : L.first + L.many < 2147483648
  scn : scan L.first 0 (secsL S L.from_ L.many) [] [] 0 = (ds, L.next)

theorem LogOf.next_le {L : LM} {S : List ByteArray} {ds : List (List Chg)} (h : LogOf L S ds) : L.next ≤ L.many := by
  have := scan_next_le h.scn
  rwa [secsL_length _ _ _ h.fits] at this

theorem look_open {L : LM} (j : Nat) (c : Chg) : lookOf (opT L j c) (L.first + (L.next + j)) = (111, bytesOf c, true) := by
  have := bytesOf_size c
  rw [opT, show L.first + L.next + j = L.first + (L.next + j) by omega]
  exact look_text 111 _ _ (.inl rfl) (by omega)

theorem look_close {L : LM} (n : Nat) : lookOf (clT L n) (L.first + (L.next + n)) = (99, fourB n, true) :=
  look_text 99 _ _ (.inr rfl) (by decide : 4 ≤ 133)

/-- A whole deed more. -/
theorem Full.log {L : LM} {l : List Chg} {S S' : List ByteArray} {ds : List (List Chg)} (h : Full L l S S') (hL : LogOf L S ds) (hf : ∀ c ∈ l, faultOf c = 0) (h2 : L.next + l.length + 1 ≤ L.many) :
    LogOf { L with next := L.next + l.length + 1 } S' (ds ++ [l]) := by
  refine ⟨by rw [h.len]; exact hL.fits, hL.first, hL.small, ?_⟩
  rw [scan_take hL.scn (secsL S' L.from_ L.many) (secsL_take hL.next_le fun k hk => h.old k (.inl hk))]
  have hget : ∀ j, j < L.many → (secsL S' L.from_ L.many)[j]? = S'[L.from_ + j]? := fun j hj => secsL_get _ _ _ _ hj
  refine scan_deed L.first (secsL S' L.from_ L.many) l L.next ds (fun j c hj => ?_) ?_ fun s hs => ?_
  · have hjl := (List.getElem?_eq_some_iff.1 hj).1
    have hfc := hf c (List.mem_of_getElem? hj)
    exact ⟨opT L j c, by rw [hget _ (by omega), ← h.op j c hj]; congr 1; omega, look_open j c, hfc⟩
  · exact ⟨clT L l.length, by rw [hget _ (by omega), ← h.cl]; congr 1; omega, look_close l.length⟩
  · by_cases hb : L.next + l.length + 1 < L.many
    · rw [hget _ hb] at hs
      have := h.bl hb
      rw [show L.from_ + L.next + l.length + 1 = L.from_ + (L.next + l.length + 1) by omega, hs] at this
      cases this
      exact look_blank _ (by have := hL.first; omega) (by have := hL.small; omega)
    · rw [List.getElem?_eq_none (by rw [secsL_length _ _ _ (by rw [h.len]; exact hL.fits)]; omega)] at hs
      cases hs

theorem Full.noC {L : LM} {l : List Chg} {S S' : List ByteArray} {ds : List (List Chg)} (h : Full L l S S') (hL : LogOf L S ds) (hc : NoC L S) :
    NoC { L with next := L.next + l.length + 1 } S' := by
  intro j s hj hm hs
  simp only at hj hm hs ⊢
  by_cases he : j = L.next + l.length + 1
  · subst he
    have := h.bl hm
    rw [show L.from_ + L.next + l.length + 1 = L.from_ + (L.next + l.length + 1) by omega, hs] at this
    cases this
    intro hc
    have := look_blank (L.first + (L.next + l.length + 1)) (by have := hL.first; omega) (by have := hL.small; omega)
    rw [show blankT = padTo 140 ⟨#[]⟩ from rfl, closedS, this] at hc
    cases hc.1
  · rw [h.old _ (.inr (.inl (by omega)))] at hs
    exact hc j s (by omega) hm hs

/-- Half of a deed more: no deed. -/
theorem Half.log {L : LM} {l : List Chg} {S S' : List ByteArray} {ds : List (List Chg)} (h : Half L l S S') (hL : LogOf L S ds) (hc : NoC L S) : LogOf L S' ds ∧ NoC L S' := by
  have hfits : L.from_ + L.many ≤ S'.length := by rw [h.len]; exact hL.fits
  have hno : NoC L S' := by
    intro j s hj hm hs
    rcases h.all _ s hs with h1 | ⟨i, c, hi, h1, rfl⟩ | ⟨h0, h1, rfl⟩
    · exact hc j s hj hm h1
    · have hji : j = L.next + i := by omega
      subst hji
      intro hcl
      rw [closedS, look_open i c] at hcl
      exact absurd hcl.2 (show ¬ (111 : Nat) = 99 by decide)
    · intro hcl
      have := look_blank (L.first + j) (by have := hL.first; omega) (by have := hL.small; omega)
      rw [show blankT = padTo 140 ⟨#[]⟩ from rfl, closedS, this] at hcl
      cases hcl.1
  refine ⟨⟨hfits, hL.first, hL.small, ?_⟩, hno⟩
  have hold : ∀ k, k < L.from_ + L.next → S'[k]? = S[k]? := fun k hk => by
    have hlt : k < S'.length := by have := hL.next_le; omega
    rcases h.all k S'[k] (List.getElem?_eq_getElem hlt) with h1 | ⟨i, c, hi, h1, -⟩ | ⟨h0, h1, -⟩
    · rw [h1, List.getElem?_eq_getElem hlt]
    · omega
    · omega
  rw [scan_take hL.scn (secsL S' L.from_ L.many) (secsL_take hL.next_le hold)]
  refine scan_noC L.first _ L.next [] ds L.next fun j s hs => ?_
  rw [List.getElem?_drop] at hs
  have hjm : L.next + j < L.many := by
    have := (List.getElem?_eq_some_iff.1 hs).1
    rwa [secsL_length _ _ _ hfits] at this
  rw [secsL_get _ _ _ _ hjm] at hs
  exact hno (L.next + j) s (by omega) hjm hs

/-- All sectors are whole ones. -/
def AllSz (S : List ByteArray) : Prop := ∀ s ∈ S, s.size = 140
theorem opT_size (L : LM) (j : Nat) (c : Chg) : (opT L j c).size = 140 := padTo_size _ (text_le _ _ _)
theorem clT_size (L : LM) (n : Nat) : (clT L n).size = 140 := padTo_size _ (by rw [textB_size]; exact (by decide : 7 + 4 ≤ 140))
theorem blankT_size : blankT.size = 140 := padTo_size _ (Nat.zero_le _)

theorem Half.sz {L : LM} {l : List Chg} {S S' : List ByteArray} (h : Half L l S S') (hS : AllSz S) : AllSz S' := by
  intro s hs
  obtain ⟨k, hk⟩ := List.getElem?_of_mem hs
  rcases h.all k s hk with h1 | ⟨j, c, -, -, rfl⟩ | ⟨-, -, rfl⟩
  · exact hS s (List.mem_of_getElem? h1)
  · exact opT_size _ _ _
  · exact blankT_size

theorem Full.sz {L : LM} {l : List Chg} {S S' : List ByteArray} (h : Full L l S S') (hS : AllSz S) : AllSz S' := by
  intro s hs
  obtain ⟨k, hk⟩ := List.getElem?_of_mem hs
  by_cases h1 : L.from_ + L.next ≤ k ∧ k < L.from_ + L.next + l.length
  · obtain ⟨c, hc⟩ : ∃ c, l[k - (L.from_ + L.next)]? = some c := ⟨_, List.getElem?_eq_getElem (by omega)⟩
    have := h.op _ c hc
    rw [show L.from_ + L.next + (k - (L.from_ + L.next)) = k by omega, hk] at this
    cases this
    exact opT_size _ _ _
  · by_cases h2 : k = L.from_ + L.next + l.length
    · subst h2
      rw [h.cl] at hk
      cases hk
      exact clT_size _ _
    · by_cases h3 : k = L.from_ + L.next + l.length + 1 ∧ L.next + l.length + 1 < L.many
      · obtain ⟨rfl, h3⟩ := h3
        rw [h.bl h3] at hk
        cases hk
        exact blankT_size
      · rw [h.old k (by omega)] at hk
        exact hS s (List.mem_of_getElem? hk)

end Go.Proofs.Ytkapmpngglibjaa

/- Errors by number, light deeds, the same deeds. Conditions: each contract's own premises. -/
namespace Go.Proofs.Ytkapmpngglibjaa
open Go Go.RowKit

set_option maxHeartbeats 1000000 in
theorem number_any (m : Nat) (w : World) : Calls Try.prog 48 #[errV m] w (Ret (.int .i64 (m : Int)) fun w' => w = w') := by
  by_cases hm : m = 0
  · subst hm
    rw [show errV 0 = .nilIface from rfl]
    go_enter Try.func48, Try.ntmps48
    go_wp2_with fail
    go_ret
    exact Ret.of rfl rfl
  · rw [show errV m = .iface 101 (.int .i64 (m : Int)) by simp [errV, hm]]
    have hta := fun w => run_assert_errno (.int .i64 (m : Int)) w
    clear hm
    go_enter Try.func48, Try.ntmps48
    go_wp2_with fail
    go_ret
    exact Ret.of rfl rfl

def lightDeeds (l : List (List Chg)) (most : Int) : Bool := decide ((l.length : Int) ≤ most) && l.all fun d => lightChanges d 14

theorem DeedsP.form {S : Nat → Prop} {w : World} {v : Value} {ds : List (List Chg)} (h : DeedsP S w v ds) : ∃ ao cap, v = .slice ao ds.length cap ∧
    ∀ (i : Nat) (d : List Chg), ds[i]? = some d → ∃ b off u, ao = some ⟨b, off, none⟩ ∧ S b ∧ w.cell? ⟨b, off + i, none⟩ = some u ∧ ChgP S w u d := by
  obtain ⟨ao, cap, vs, rfl, hm, hl, hc, hr⟩ := h
  refine ⟨ao, cap, rfl, fun i d hd => ?_⟩
  obtain ⟨u, hu⟩ : ∃ u, vs[i]? = some u := ⟨_, List.getElem?_eq_getElem (by rw [hl]; exact (List.getElem?_eq_some_iff.1 hd).1)⟩
  obtain ⟨b, off, h1, h2, h3⟩ := hc i u hu
  exact ⟨b, off, u, h1, h2, h3, hr i u d hu hd⟩

set_option maxHeartbeats 1000000 in
set_option maxRecDepth 100000 in
theorem lightDeeds_any (S : Nat → Prop) (v : Value) (l : List (List Chg)) (most : Int) (w : World) (h : DeedsP S w v l) :
    Calls Try.prog 46 #[v, .int .i64 most] w (Ret (.bool (lightDeeds l most)) fun w' => w = w') := by
  have hm : l.length ≤ maxLen := by
    obtain ⟨ao, cap, vs, rfl, hm, -⟩ := h
    exact hm
  obtain ⟨ao, cap, rfl, hr⟩ := h.form
  obtain ⟨n, hn⟩ : ∃ n, n = l.length := ⟨_, rfl⟩
  rw [← hn] at hm ⊢
  have HN := Lib.hid hn
  have HR := Lib.hid hr
  clear hn hr h
  unfold maxLen at hm
  have a0 : (0 : Int) ≤ (n : Int) := by omega
  have a1 : (n : Int) ≤ 9223372036854775807 := by omega
  by_cases hlong : most < (n : Int)
  · go_enter Try.func46, Try.ntmps46
    go_wp2
    go_ret
    refine Ret.of ?_ rfl
    have := HN.out
    simp [lightDeeds]
    intro h
    omega
  · go_enter Try.func46, Try.ntmps46
    go_wp2_with fail
    go_loop [5] (fun i => ∃ k : Nat, k ≤ n ∧ i = .int .i64 (k : Int) ∧ Hid ((l.take k).all (fun d => lightChanges d 14) = true)) (fun i => n - (intOf i).toNat)
    case atStart => exact ⟨0, by omega, rfl, rfl⟩
    case round =>
      obtain ⟨k, hk, rfl, HALL⟩ := hrel
      by_cases hlt : k < n
      · obtain ⟨d, hd⟩ : ∃ d, l[k]? = some d := ⟨_, List.getElem?_eq_getElem (by rw [← HN.out]; exact hlt)⟩
        obtain ⟨b, off, u, rfl, -, c0, hu⟩ := HR.out k d hd
        have b0 : (0 : Int) ≤ (k : Int) := by omega
        have b1 : (k : Int) < (n : Int) := by omega
        have HU := Lib.hid hu.at
        have HD := Lib.hid hd
        obtain ⟨ao2, cap2, rfl, -⟩ := hu
        clear hd
        go_wp2_with fail
        refine (lightChanges_any _ d 14 w HU.out).mono ?_
        rintro e w1 ⟨rfl, rfl⟩
        cases hx : lightChanges d 14
        · have HX := Lib.hid hx
          clear hx
          go_wp2_with fail
          go_ret
          refine Ret.of ?_ rfl
          have : l.all (fun d => lightChanges d 14) = false := by
            rw [List.all_eq_false]
            exact ⟨d, List.mem_of_getElem? HD.out, by rw [HX.out]; simp⟩
          simp [lightDeeds, this]
        · have HX := Lib.hid hx
          clear hx
          go_wp2_with fail
          go_round
          case rel => exact ⟨k + 1, by omega, by go_num, by show _ = true; rw [List.take_add_one, HD.out, List.all_append, HALL.out]; simp [HX.out]⟩
          case measure => simp [intOf]; omega
      · obtain rfl : k = n := by omega
        go_wp2_with fail
        go_ret
        refine Ret.of ?_ rfl
        have h1 := HALL.out
        have hN := HN.out
        rw [List.take_of_length_le (by omega)] at h1
        rw [lightDeeds, h1, decide_eq_true (by omega)]
        rfl

def sameD : List (List Chg) → List (List Chg) → Bool
  | [], [] => true
  | a :: l, b :: m => sameL a b && sameD l m
  | _, _ => false

theorem sameL_eq (a b : List Chg) : sameL a b = true ↔ a = b := by
  constructor
  · intro h
    have hl := sameL_len a b h
    apply List.ext_getElem? 
    intro i
    by_cases hi : i < a.length
    · have h1 := List.getElem?_eq_getElem hi
      have h2 := List.getElem?_eq_getElem (show i < b.length by omega)
      have := (sameL_iff a b hl).1 h i _ _ h1 h2
      rw [h1, h2, (sameChg_iff _ _).1 this]
    · rw [List.getElem?_eq_none (by omega), List.getElem?_eq_none (by omega)]
  · rintro rfl
    exact (sameL_iff a a rfl).2 fun k x y hx hy => by rw [hx] at hy; cases hy; exact (sameChg_iff x x).2 rfl

theorem sameD_eq : ∀ (a b : List (List Chg)), sameD a b = true ↔ a = b
  | [], [] => by simp [sameD]
  | x :: a, y :: b => by
    rw [sameD, Bool.and_eq_true, sameL_eq, sameD_eq a b, List.cons.injEq]
  | [], _ :: _ => by simp [sameD]
  | _ :: _, [] => by simp [sameD]

set_option maxHeartbeats 1000000 in
set_option maxRecDepth 100000 in
theorem same_deeds (S1 S2 : Nat → Prop) (v1 v2 : Value) (l1 l2 : List (List Chg)) (w : World) (h1 : DeedsP S1 w v1 l1) (h2 : DeedsP S2 w v2 l2) (hmax : l1.length ≤ 1000) (hel : ∀ d ∈ l1, d.length ≤ 1000) :
    Calls Try.prog 49 #[v1, v2] w (Ret (.bool (sameD l1 l2)) fun w' => Below w.heap.size w w') := by
  obtain ⟨ao1, cap1, rfl, hr1⟩ := h1.form
  obtain ⟨ao2, cap2, rfl, hr2⟩ := h2.form
  have hm2 : l2.length ≤ maxLen := by
    obtain ⟨ao, cap, vs, -, hm, -⟩ := h2
    exact hm
  unfold maxLen at hm2
  by_cases hlen : l1.length = l2.length
  case neg =>
    have hf : sameD l1 l2 = false := by
      rw [← Bool.not_eq_true, sameD_eq]
      exact fun h => hlen (by rw [h])
    have HF := Lib.hid hf
    have hne : ¬ (l1.length : Int) = (l2.length : Int) := by omega
    clear hf hr1 hr2 h1 h2
    generalize l1.length = n1 at *
    generalize l2.length = n2 at *
    clear hlen hel
    go_enter Try.func49, Try.ntmps49
    go_wp2_with fail
    all_goals go_ret
    all_goals exact Ret.of (by rw [HF.out]; rfl) (Below.refl _ _)
  rw [← hlen]
  obtain ⟨n, hn⟩ : ∃ n, n = l1.length := ⟨_, rfl⟩
  rw [← hn] at hmax ⊢
  have HN := Lib.hid hn
  have HL := Lib.hid hlen
  have HR := Lib.hid (And.intro hr1 hr2)
  have HEL := Lib.hid hel
  clear hn hlen hr1 hr2 hel h1 h2 hm2
  have n0 : (0 : Int) ≤ (n : Int) := by omega
  have n1 : (n : Int) ≤ 1000 := by omega
  go_enter Try.func49, Try.ntmps49
  go_wp2_with fail
  go_loopw [5] (fun i wr => ∃ k : Nat, k ≤ n ∧ i = .int .i64 (k : Int) ∧ Below w.heap.size w wr ∧ Hid (l1.take k = l2.take k)) (fun i _ => n - (intOf i).toNat)
  case atStart => exact ⟨0, by omega, rfl, Below.refl _ _, by show _ = _; simp⟩
  case round =>
    obtain ⟨k, hk, rfl, hB, HALL⟩ := hrel
    have b0 : (0 : Int) ≤ (k : Int) := by omega
    by_cases hlt : k < n
    · have b1 : (k : Int) < (n : Int) := by omega
      obtain ⟨a, ha⟩ : ∃ a, l1[k]? = some a := ⟨_, List.getElem?_eq_getElem (by rw [← HN.out]; exact hlt)⟩
      obtain ⟨b, hb⟩ : ∃ a, l2[k]? = some a := ⟨_, List.getElem?_eq_getElem (by rw [← HL.out, ← HN.out]; exact hlt)⟩
      obtain ⟨q1, q2⟩ := HR.out
      obtain ⟨b1', o1, u1, rfl, -, e1, g1⟩ := q1 k _ ha
      obtain ⟨b2', o2, u2, rfl, -, e2, g2⟩ := q2 k _ hb
      have up : ∀ (a : Addr) (u : Value), w.cell? a = some u → wr.cell? a = some u := fun a u hu => (hB.cell (World.block_lt_of_cell? w _ hu)).trans hu
      have c1 := up _ _ e1
      have c2 := up _ _ e2
      have HA := Lib.hid ha
      have HBB := Lib.hid hb
      have G1 := Lib.hid (SliceAt.below g1.at hB)
      have G2 := Lib.hid (SliceAt.below g2.at hB)
      have hal := HEL.out a (List.mem_of_getElem? ha)
      obtain ⟨ao3, cap3, rfl, -⟩ := g1
      obtain ⟨ao4, cap4, rfl, -⟩ := g2
      clear up e1 e2 q1 q2 ha hb
      go_wp2_with fail
      refine wp_region_plan (fun w2 => w2 = wr.drew) 29 [([0, 1, 2, 3, 4, 5, 6, 7], [8, 9], false)] (by kernel_rfl) (by kernel_rfl) ?_
      apply wpStages_last
      case hT => rfl
      case hn => exact Nat.le_refl _
      case hq =>
        rintro w2 rfl
        simp only [picked, List.filterMap_cons, List.filterMap_nil, List.getElem?_cons_zero, List.getElem?_cons_succ]
        repeat still_step
        exact wpStill_nil rfl
      simp only [picked, List.filterMap_cons, List.filterMap_nil, List.getElem?_cons_zero, List.getElem?_cons_succ]
      clear c1 c2
      go_wp2_with fail
      refine (same_changes _ _ a b wr.drew G1.out G2.out hal).mono ?_
      rintro e w3 ⟨rfl, hB3⟩
      have hB4 := hB.trans (((Below.refl wr.heap.size wr).drew.trans hB3).mono hB.size)
      clear hB3
      cases hx : sameL a b
      · have HF := Lib.hid (show sameD l1 l2 = false by
          rw [← Bool.not_eq_true, sameD_eq]
          intro h
          have h1 := HA.out
          rw [h, HBB.out] at h1
          cases h1
          rw [(sameL_eq a a).2 rfl] at hx
          cases hx)
        clear hx
        go_wp2_with fail
        refine OnlyNormal.mk ?_
        go_wp2_with fail
        go_ret
        exact Ret.of (by rw [HF.out]; rfl) hB4
      · have hab := (sameL_eq a b).1 hx
        have HAL := Lib.hid (show l1.take (k + 1) = l2.take (k + 1) by rw [List.take_add_one, List.take_add_one, HALL.out, HA.out, HBB.out, hab])
        clear hx hab
        go_wp2_with fail
        refine OnlyNormal.mk ?_
        go_wp2_with fail
        exact ⟨⟨k + 1, by omega, by go_num, hB4, HAL⟩, by simp [intOf]; omega⟩
    · obtain rfl : k = n := by omega
      have ht : sameD l1 l2 = true := by
        rw [sameD_eq]
        have h := HALL.out
        rwa [List.take_of_length_le (by rw [← HN.out]; exact Nat.le_refl _), List.take_of_length_le (by rw [← HL.out, ← HN.out]; exact Nat.le_refl _)] at h
      have HT := Lib.hid ht
      clear ht
      go_wp2_with fail
      go_ret
      exact Ret.of (by rw [HT.out]; rfl) hB

end Go.Proofs.Ytkapmpngglibjaa
