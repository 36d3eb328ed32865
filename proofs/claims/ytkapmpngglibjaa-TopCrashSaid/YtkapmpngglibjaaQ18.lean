/- Several texts in one: what each begins with says what it shows. Conditions: each law's own premises. -/
import Derived.Test.YtkapmpngglibjaaQ17

/- What is laid is read: plain. No condition beyond each law's own. -/
namespace Go.Proofs.Ytkapmpngglibjaa
open Go Go.RowKit

/-! ### what is laid is read -/

theorem ba_ext {a b : ByteArray} (h : a.data.toList = b.data.toList) : a = b := by
  obtain ⟨⟨a⟩⟩ := a
  obtain ⟨⟨b⟩⟩ := b
  simp at h
  subst h
  rfl

theorem extract_list (s : ByteArray) (a b : Nat) : (s.extract a b).data.toList = (s.data.toList.drop a).take (b - a) := by
  rw [ByteArray.data_extract, Array.toList_extract]

theorem padTo_list (n : Nat) (s : ByteArray) : (padTo n s).data.toList = s.data.toList ++ List.replicate (n - s.size) 0 := by
  simp [padTo]

theorem size_list (s : ByteArray) : s.size = s.data.toList.length := by
  rw [Array.length_toList]
  rfl

theorem text_list (kind n : Nat) (s : ByteArray) : (textB kind n s).data.toList =
    UInt8.ofNat kind :: UInt8.ofNat n :: UInt8.ofNat (n / 256) :: UInt8.ofNat (n / 65536) :: UInt8.ofNat (n / 16777216) :: UInt8.ofNat s.size :: UInt8.ofNat (s.size / 256) :: s.data.toList := by
  simp [textB, fourB]

theorem textB_size (kind n : Nat) (s : ByteArray) : (textB kind n s).size = 7 + s.size := by
  rw [size_list, text_list, size_list]
  simp only [List.length_cons]
  omega

theorem byteAt_list (s : ByteArray) (i : Nat) : byteAt s i = (s.data.toList[i]?.getD 0).toNat := by simp [byteAt]

theorem look_text (kind n : Nat) (s : ByteArray) (hk : kind = 111 ∨ kind = 99) (hs : s.size ≤ 133) : lookOf (padTo 140 (textB kind n s)) n = (kind, s, true) := by
  have hl : (padTo 140 (textB kind n s)).data.toList = UInt8.ofNat kind :: UInt8.ofNat n :: UInt8.ofNat (n / 256) :: UInt8.ofNat (n / 65536) :: UInt8.ofNat (n / 16777216) :: UInt8.ofNat s.size :: UInt8.ofNat (s.size / 256) ::
      (s.data.toList ++ List.replicate (140 - (7 + s.size)) 0) := by
    rw [padTo_list, text_list, textB_size]
    rfl
  have hkb : kind < 256 := by omega
  have b0 : byteAt (padTo 140 (textB kind n s)) 0 = kind := by
    rw [byteAt_list, hl]
    simp [Nat.mod_eq_of_lt hkb]
  have b5 : byteAt (padTo 140 (textB kind n s)) 5 = s.size := by
    rw [byteAt_list, hl]
    simp
    omega
  have b6 : byteAt (padTo 140 (textB kind n s)) 6 = 0 := by
    rw [byteAt_list, hl]
    have : s.size / 256 = 0 := by omega
    simp [this]
  have e15 : ((padTo 140 (textB kind n s)).extract 1 5) = fourB n := by
    apply ba_ext
    rw [extract_list, hl]
    rfl
  have e7 : (padTo 140 (textB kind n s)).extract 7 (7 + (s.size + 256 * 0)) = s := by
    apply ba_ext
    rw [extract_list, hl]
    simp only [List.drop_succ_cons, List.drop_zero, Nat.mul_zero, Nat.add_zero, Nat.add_sub_cancel_left, size_list]
    exact List.take_left
  unfold lookOf
  rw [b0, b5, b6, e15, e7]
  have : (kind == 111 || kind == 99) = true := by rcases hk with rfl | rfl <;> rfl
  rw [this]
  simp
  omega

theorem fourB_ne (n : Nat) (h0 : 0 < n) (h1 : n < 2147483648) : (fourB n).toList ≠ [0, 0, 0, 0] := by
  rw [ByteArray.toList_eq]
  intro h
  simp only [fourB, List.cons.injEq, and_true] at h
  obtain ⟨h1', h2, h3, h4⟩ := h
  have f : ∀ m : Nat, UInt8.ofNat m = 0 → m % 256 = 0 := fun m hm => by
    have := congrArg UInt8.toNat hm
    simpa using this
  have := f _ h1'
  have := f _ h2
  have := f _ h3
  have := f _ h4
  omega

/-- A blank sector is none. -/
theorem look_blank (n : Nat) (h0 : 0 < n) (h1 : n < 2147483648) : (lookOf (padTo 140 ⟨#[]⟩) n).2.2 = false := by
  have e : ((padTo 140 ⟨#[]⟩).extract 1 5).toList = [0, 0, 0, 0] := by
    rw [ByteArray.toList_eq, extract_list, padTo_list]
    rfl
  unfold lookOf
  rw [e]
  have : ([0, 0, 0, 0] == (fourB n).toList) = false := by
    rw [← Bool.not_eq_true, beq_iff_eq]
    exact fun h => fourB_ne n h0 h1 h.symm
  rw [this]
  rfl

theorem parse_bytes (c : Chg) (h : faultOf c = 0) : parseOf (bytesOf c) = (c, 0) := by
  have hk : c.key.size ≤ 48 := by
    unfold faultOf at h
    split at h
    · cases h
    · split at h
      · cases h
      · omega
  have hb : (bytesOf c).data.toList = (if c.gone then 1 else 0) :: UInt8.ofNat c.key.size :: (c.key.data.toList ++ c.val.data.toList) := by
    rw [bytesOf, if_pos h]
    simp [rawOf]
  have hsz : (bytesOf c).size = 2 + c.key.size + c.val.size := by
    rw [size_list, hb, size_list, size_list]
    simp only [List.length_cons, List.length_append]
    omega
  have b0 : byteAt (bytesOf c) 0 = if c.gone then 1 else 0 := by
    rw [byteAt_list, hb]
    cases c.gone <;> rfl
  have b1 : byteAt (bytesOf c) 1 = c.key.size := by
    rw [byteAt_list, hb]
    simp
    omega
  have hraw : rawParse (bytesOf c) = c := by
    have e1 : (bytesOf c).extract 2 (2 + c.key.size) = c.key := by
      apply ba_ext
      rw [extract_list, hb]
      simp only [List.drop_succ_cons, List.drop_zero, Nat.add_sub_cancel_left, size_list]
      exact List.take_left
    have e2 : (bytesOf c).extract (2 + c.key.size) (2 + c.key.size + c.val.size) = c.val := by
      apply ba_ext
      rw [extract_list, hb, show 2 + c.key.size = c.key.size + 2 by omega]
      simp only [List.drop_succ_cons, size_list]
      rw [List.drop_left, show c.key.data.toList.length + 2 + c.val.data.toList.length - (c.key.data.toList.length + 2) = c.val.data.toList.length by omega, List.take_length]
    rw [rawParse, b1, b0, hsz, e1, e2]
    obtain ⟨k, v, g⟩ := c
    cases g <;> rfl
  rw [parseOf, if_pos, hraw]
  refine ⟨by omega, ?_, by omega, by rw [hraw]; exact h⟩
  rw [b0]
  split <;> omega

end Go.Proofs.Ytkapmpngglibjaa

/- What a scan of a log hangs on: plain. No condition beyond each law's own. -/
namespace Go.Proofs.Ytkapmpngglibjaa
open Go Go.RowKit

/-! ### what a scan hangs on -/

/-- A sector that closes a deed. -/
def closedS (s : ByteArray) (n : Nat) : Prop := (lookOf s n).2.2 = true ∧ (lookOf s n).1 = 99

theorem scan_noC (first : Nat) : ∀ (S : List ByteArray) (i : Nat) (deed : List Chg) (out : List (List Chg)) (nx : Nat), (∀ (j : Nat) (s : ByteArray), S[j]? = some s → ¬ closedS s (first + (i + j))) → scan first i S deed out nx = (out, nx)
  | [], i, deed, out, nx, _ => rfl
  | s :: l, i, deed, out, nx, h => by
    have h0 := h 0 s rfl
    have ih := fun d => scan_noC first l (i + 1) d out nx (fun j x hx => by have := h (j + 1) x (by simpa using hx); rwa [show i + 1 + j = i + (j + 1) by omega])
    unfold scan
    rw [Nat.add_zero] at h0
    split
    · rename_i hok
      split
      · rename_i h99
        exact absurd ⟨hok, by simpa using h99⟩ h0
      · split
        · exact ih _
        · rfl
    · rfl

theorem scan_split (first : Nat) : ∀ (S : List ByteArray) (i : Nat) (deed : List Chg) (out : List (List Chg)) (nx : Nat) (o : List (List Chg)) (m : Nat), scan first i S deed out nx = (o, m) →
    (o, m) = (out, nx) ∨ (i < m ∧ m - i ≤ S.length ∧ ∀ S' : List ByteArray, S'.take (m - i) = S.take (m - i) → scan first i S' deed out nx = scan first m (S'.drop (m - i)) [] o m)
  | [], i, deed, out, nx, o, m, h => by
    left
    rw [← h]
    rfl
  | s :: l, i, deed, out, nx, o, m, h => by
    have cons : ∀ (S' : List ByteArray) (k : Nat), 0 < k → S'.take k = (s :: l).take k → ∃ l', S' = s :: l' ∧ l'.take (k - 1) = l.take (k - 1) := fun S' k hk he => by
      cases S' with
      | nil =>
        cases k with
        | zero => omega
        | succ k => simp at he
      | cons x l' =>
        cases k with
        | zero => omega
        | succ k =>
          simp only [List.take_succ_cons, List.cons.injEq] at he
          exact ⟨l', by rw [he.1], by simpa using he.2⟩
    unfold scan at h
    split at h
    · rename_i hok
      split at h
      · rename_i h99
        split at h
        · rename_i hlen
          have step : ∀ l', scan first i (s :: l') deed out nx = scan first (i + 1) l' [] (out ++ [deed]) (i + 1) := fun l' => by
            conv => lhs; unfold scan
            rw [if_pos hok, if_pos h99, if_pos hlen]
          right
          rcases scan_split first l (i + 1) [] (out ++ [deed]) (i + 1) o m h with he | ⟨h1, h2, h3⟩
          · obtain ⟨rfl, rfl⟩ := Prod.mk.inj he
            refine ⟨by omega, by simp, fun S' hS => ?_⟩
            obtain ⟨l', rfl, -⟩ := cons S' _ (by omega) hS
            rw [step]
            congr 1
            rw [show i + 1 - i = 1 by omega]
            rfl
          · refine ⟨by omega, by simp only [List.length_cons]; omega, fun S' hS => ?_⟩
            obtain ⟨l', rfl, hl⟩ := cons S' _ (by omega) hS
            rw [step, h3 l' (by rw [show m - (i + 1) = m - i - 1 by omega]; exact hl), show m - i = (m - (i + 1)) + 1 by omega, List.drop_succ_cons]
        · left; rw [← h]
      · rename_i h99
        split at h
        · rename_i hp
          have step : ∀ l', scan first i (s :: l') deed out nx = scan first (i + 1) l' (deed ++ [(parseOf (lookOf s (first + i)).2.1).1]) out nx := fun l' => by
            conv => lhs; unfold scan
            rw [if_pos hok, if_neg h99, if_pos hp]
          rcases scan_split first l (i + 1) _ out nx o m h with he | ⟨h1, h2, h3⟩
          · exact .inl he
          · right
            refine ⟨by omega, by simp only [List.length_cons]; omega, fun S' hS => ?_⟩
            obtain ⟨l', rfl, hl⟩ := cons S' _ (by omega) hS
            rw [step, h3 l' (by rw [show m - (i + 1) = m - i - 1 by omega]; exact hl), show m - i = (m - (i + 1)) + 1 by omega, List.drop_succ_cons]
        · left; rw [← h]
    · left; rw [← h]

/-- The deeds hang on the sectors that they take alone. -/
theorem scan_take {first : Nat} {S : List ByteArray} {ds : List (List Chg)} {next : Nat} (h : scan first 0 S [] [] 0 = (ds, next)) (S' : List ByteArray) (hS : S'.take next = S.take next) :
    scan first 0 S' [] [] 0 = scan first next (S'.drop next) [] ds next := by
  rcases scan_split first S 0 [] [] 0 ds next h with he | ⟨h1, h2, h3⟩
  · obtain ⟨rfl, rfl⟩ := Prod.mk.inj he
    rfl
  · exact h3 S' hS

theorem scan_next_le {first : Nat} {S : List ByteArray} {ds : List (List Chg)} {next : Nat} (h : scan first 0 S [] [] 0 = (ds, next)) : next ≤ S.length := by
  rcases scan_split first S 0 [] [] 0 ds next h with he | ⟨h1, h2, h3⟩
  · obtain ⟨rfl, rfl⟩ := Prod.mk.inj he
    exact Nat.zero_le _
  · omega

/-- Changes that are laid one behind the other. -/
theorem scan_opened (first : Nat) (S : List ByteArray) : ∀ (l : List Chg) (i : Nat) (deed : List Chg) (out : List (List Chg)) (nx : Nat),
    (∀ (j : Nat) (c : Chg), l[j]? = some c → ∃ s, S[i + j]? = some s ∧ lookOf s (first + (i + j)) = (111, bytesOf c, true) ∧ faultOf c = 0) → scan first i (S.drop i) deed out nx = scan first (i + l.length) (S.drop (i + l.length)) (deed ++ l) out nx
  | [], i, deed, out, nx, _ => by simp
  | c :: l, i, deed, out, nx, h => by
    obtain ⟨s, h1, h2, h3⟩ := h 0 c rfl
    rw [Nat.add_zero] at h1 h2
    obtain ⟨hlt, hs⟩ := List.getElem?_eq_some_iff.1 h1
    have ih := scan_opened first S l (i + 1) (deed ++ [c]) out nx (fun j x hx => by
      obtain ⟨s', g1, g2, g3⟩ := h (j + 1) x (by simpa using hx)
      exact ⟨s', by rw [show i + 1 + j = i + (j + 1) by omega]; exact g1, by rw [show i + 1 + j = i + (j + 1) by omega]; exact g2, g3⟩)
    rw [List.drop_eq_getElem_cons hlt, scan, hs, h2]
    simp only [if_true]
    rw [if_neg (by decide), parse_bytes c h3, if_pos rfl, ih, List.length_cons, show i + 1 + l.length = i + (l.length + 1) by omega]
    simp

/-- A whole deed, and behind it none that is written. -/
theorem scan_deed (first : Nat) (S : List ByteArray) (l : List Chg) (i : Nat) (out : List (List Chg)) (hl : ∀ (j : Nat) (c : Chg), l[j]? = some c → ∃ s, S[i + j]? = some s ∧ lookOf s (first + (i + j)) = (111, bytesOf c, true) ∧ faultOf c = 0)
    (hc : ∃ s, S[i + l.length]? = some s ∧ lookOf s (first + (i + l.length)) = (99, fourB l.length, true)) (hb : ∀ s, S[i + l.length + 1]? = some s → (lookOf s (first + (i + l.length + 1))).2.2 = false) :
    scan first i (S.drop i) [] out i = (out ++ [l], i + l.length + 1) := by
  rw [scan_opened first S l i [] out i hl, List.nil_append]
  obtain ⟨s, h1, h2⟩ := hc
  obtain ⟨hlt, hs⟩ := List.getElem?_eq_some_iff.1 h1
  rw [List.drop_eq_getElem_cons hlt, scan, hs, h2]
  simp only [if_true]
  rw [if_pos (by decide), if_pos (by simp)]
  cases hn : S[i + l.length + 1]? with
  | none =>
    rw [List.drop_of_length_le (List.getElem?_eq_none_iff.1 hn)]
    rfl
  | some x =>
    obtain ⟨hlt2, hx⟩ := List.getElem?_eq_some_iff.1 hn
    rw [List.drop_eq_getElem_cons hlt2, scan, hx, hb x hn]
    simp

end Go.Proofs.Ytkapmpngglibjaa

/- The steps of a disk under a log: plain. No condition beyond each law's own. -/
namespace Go.Proofs.Ytkapmpngglibjaa
open Go Go.RowKit

/-! ### steps of a disk -/

theorem padTo_size (s : ByteArray) (h : s.size ≤ 140) : (padTo 140 s).size = 140 := by
  rw [size_list, padTo_list, List.length_append, List.length_replicate, ← size_list]
  omega

/-- Not down, and not armed. -/
def DM.Ready (D : DM) : Prop := D.down = false ∧ D.fuse = -1

theorem step_cases (D : DM) : (D.step.1 = true ∧ D.step.2.down = false) ∨ D.step.1 = false := by
  unfold DM.step
  split
  · exact .inr rfl
  · rename_i h
    split
    · exact .inr rfl
    · exact .inl ⟨rfl, by simpa using h⟩

theorem step_up {D : DM} (h : D.Ready) : D.step.1 = true ∧ D.step.2.Ready := by
  obtain ⟨h1, h2⟩ := h
  unfold DM.step
  rw [h1, h2]
  exact ⟨rfl, rfl, rfl⟩

theorem write_cases (D : DM) (p : Nat) (s : ByteArray) (hp : p < D.now.length) (hs : s.size ≤ 140) :
    ((D.write p s).1 = 0 ∧ (D.write p s).2.kept = D.kept ∧ (D.write p s).2.now = D.now.set p (padTo 140 s) ∧ (D.write p s).2.wait = D.wait ++ [(p, padTo 140 s)] ∧ (D.write p s).2.down = false) ∨
    ((D.write p s).1 = 10 ∧ (D.write p s).2.kept = D.kept ∧ (D.write p s).2.now = D.now ∧ (D.write p s).2.wait = D.wait) := by
  have e : D.write p s = if D.step.1 then (0, D.step.2.put p s) else (10, D.step.2) := by
    unfold DM.write
    rw [if_neg (by omega)]
    simp
  obtain ⟨h1, h2, h3⟩ := D.step_now
  rcases step_cases D with ⟨h, hd⟩ | h
  · left
    rw [e, if_pos h]
    exact ⟨rfl, h3, by simp [DM.put, h1], by simp [DM.put, h2], hd⟩
  · right
    rw [e, h]
    exact ⟨rfl, h3, h1, h2⟩

theorem write_up {D : DM} (h : D.Ready) (p : Nat) (s : ByteArray) (hp : p < D.now.length) (hs : s.size ≤ 140) : (D.write p s).1 = 0 ∧ (D.write p s).2.Ready := by
  have e : D.write p s = if D.step.1 then (0, D.step.2.put p s) else (10, D.step.2) := by
    unfold DM.write
    rw [if_neg (by omega)]
    simp
  obtain ⟨h1, h2⟩ := step_up h
  rw [e, if_pos h1]
  exact ⟨rfl, h2.1, h2.2⟩

theorem flush_cases (D : DM) : (D.flush.1 = 0 ∧ D.flush.2.kept = D.now ∧ D.flush.2.now = D.now ∧ D.flush.2.wait = [] ∧ D.flush.2.down = false) ∨
    (D.flush.1 = 10 ∧ D.flush.2.kept = D.kept ∧ D.flush.2.now = D.now ∧ D.flush.2.wait = D.wait) := by
  obtain ⟨h1, h2, h3⟩ := D.step_now
  unfold DM.flush
  rcases step_cases D with ⟨h, hd⟩ | h
  · left
    rw [if_pos h]
    exact ⟨rfl, h1, h1, rfl, hd⟩
  · right
    rw [h]
    exact ⟨rfl, h3, h1, h2⟩

theorem flush_up {D : DM} (h : D.Ready) : D.flush.1 = 0 ∧ D.flush.2.Ready := by
  obtain ⟨h1, h2⟩ := step_up h
  unfold DM.flush
  rw [if_pos h1]
  exact ⟨rfl, h2.1, h2.2⟩

/-- What holds of all that is kept, and of all that waits, holds of what is there behind a fall. -/
theorem keepFrom_all (R : Nat → ByteArray → Prop) (keep : Nat) : ∀ (ws : List (Nat × ByteArray)) (i : Nat) (l : List ByteArray), (∀ (k : Nat) (s : ByteArray), l[k]? = some s → R k s) → (∀ t ∈ ws, R t.1 t.2) →
    ∀ (k : Nat) (s : ByteArray), (keepFrom keep i ws l)[k]? = some s → R k s
  | [], _, _, h, _, k, s, hs => h k s hs
  | t :: r, i, l, h, hw, k, s, hs => by
    rw [keepFrom] at hs
    refine keepFrom_all R keep r (i + 1) _ ?_ (fun x hx => hw x (List.mem_cons_of_mem _ hx)) k s hs
    intro k' s' hs'
    split at hs'
    · rw [List.getElem?_set] at hs'
      split at hs'
      · rename_i he
        split at hs'
        · cases hs'
          rw [← he]
          exact hw t (List.mem_cons_self ..)
        · cases hs'
      · exact h k' s' hs'
    · exact h k' s' hs'

/-! ### the run of adding a deed -/

def opT (L : LM) (j : Nat) (c : Chg) : ByteArray := padTo 140 (textB 111 (L.first + L.next + j) (bytesOf c))
def clT (L : LM) (n : Nat) : ByteArray := padTo 140 (textB 99 (L.first + (L.next + n)) (fourB n))

theorem text_le (kind n : Nat) (c : Chg) : (textB kind n (bytesOf c)).size ≤ 140 := by
  have := bytesOf_size c
  rw [textB_size]
  omega

theorem layD_run (L : LM) : ∀ (m : List Chg) (i : Nat) (E : DM), L.from_ + L.next + i + m.length ≤ E.now.length →
    ((layD L E i m).1 = 0 ∨ (layD L E i m).1 = 10) ∧ (layD L E i m).2.kept = E.kept ∧ (layD L E i m).2.now.length = E.now.length ∧
    (∃ ws, (layD L E i m).2.wait = E.wait ++ ws ∧ ∀ t ∈ ws, ∃ j c, m[j]? = some c ∧ t.1 = L.from_ + L.next + (i + j) ∧ t.2 = opT L (i + j) c) ∧
    ((layD L E i m).1 = 0 → (∀ (j : Nat) (c : Chg), m[j]? = some c → (layD L E i m).2.now[L.from_ + L.next + (i + j)]? = some (opT L (i + j) c)) ∧
      ∀ k, (k < L.from_ + L.next + i ∨ L.from_ + L.next + i + m.length ≤ k) → (layD L E i m).2.now[k]? = E.now[k]?)
  | [], i, E, _ => by
    unfold layD
    exact ⟨.inl rfl, rfl, rfl, ⟨[], by simp, by simp⟩, fun _ => ⟨by simp, fun _ _ => rfl⟩⟩
  | c :: m, i, E, h => by
    simp only [List.length_cons] at h
    have hp : L.from_ + L.next + i < E.now.length := by omega
    have hw := write_cases E (L.from_ + L.next + i) (textB 111 (L.first + L.next + i) (bytesOf c)) hp (text_le _ _ _)
    unfold layD
    rcases hw with ⟨w0, w1, w2, w3, w4⟩ | ⟨w0, w1, w2, w3⟩
    · rw [if_pos w0]
      have ih := layD_run L m (i + 1) (E.write ((L.from_ + L.next + i : Nat) : Int) (textB 111 (L.first + L.next + i) (bytesOf c))).2 (by rw [w2, List.length_set]; omega)
      generalize E.write ((L.from_ + L.next + i : Nat) : Int) (textB 111 (L.first + L.next + i) (bytesOf c)) = E1 at *
      obtain ⟨i1, i2, i3, ⟨ws, i4, i5⟩, i6⟩ := ih
      refine ⟨i1, i2.trans w1, by rw [i3, w2, List.length_set], ⟨(L.from_ + L.next + i, opT L i c) :: ws, by rw [i4, w3]; simp [opT], ?_⟩, fun h0 => ?_⟩
      · intro t ht
        rcases List.mem_cons.1 ht with rfl | ht
        · exact ⟨0, c, rfl, rfl, rfl⟩
        · obtain ⟨j, c', hj, h1, h2⟩ := i5 t ht
          exact ⟨j + 1, c', by simpa using hj, by rw [h1]; omega, by rw [h2, show i + 1 + j = i + (j + 1) by omega]⟩
      · obtain ⟨g1, g2⟩ := i6 h0
        constructor
        · intro j x hx
          cases j with
          | zero =>
            simp at hx
            subst hx
            rw [g2 _ (.inl (by omega)), w2, Nat.add_zero, List.getElem?_set_self (by omega)]
            rfl
          | succ j =>
            have := g1 j x (by simpa using hx)
            rw [show i + 1 + j = i + (j + 1) by omega] at this
            exact this
        · intro k hk
          simp only [List.length_cons] at hk
          rw [g2 k (by omega), w2, List.getElem?_set_ne (by omega)]
    · rw [if_neg (by omega)]
      refine ⟨.inr w0, w1, by rw [w2], ⟨[], by rw [w3]; simp, by simp⟩, fun h0 => by omega⟩

theorem layD_up (L : LM) : ∀ (m : List Chg) (i : Nat) (E : DM), E.Ready → L.from_ + L.next + i + m.length ≤ E.now.length → (layD L E i m).1 = 0 ∧ (layD L E i m).2.Ready
  | [], i, E, h, _ => ⟨rfl, h⟩
  | c :: m, i, E, h, hl => by
    simp only [List.length_cons] at hl
    obtain ⟨h1, h2⟩ := write_up h (L.from_ + L.next + i) (textB 111 (L.first + L.next + i) (bytesOf c)) (by omega) (text_le _ _ _)
    unfold layD
    rw [if_pos h1]
    exact layD_up L m (i + 1) _ h2 (by rw [DM.wr_len]; omega)

end Go.Proofs.Ytkapmpngglibjaa

/- A deed is added to a log on a disk that may fall: plain. No condition beyond each law's own. -/
namespace Go.Proofs.Ytkapmpngglibjaa
open Go Go.RowKit

def blankT : ByteArray := padTo 140 ⟨#[]⟩

/-- All of a deed is laid. -/
structure Full (L : LM) (l : List Chg) (S S' : List ByteArray) : Prop where
  len : S'.length = S.length
  op : ∀ (j : Nat) (c : Chg), l[j]? = some c → S'[L.from_ + L.next + j]? = some (opT L j c)
  cl : S'[L.from_ + L.next + l.length]? = some (clT L l.length)
  bl : L.next + l.length + 1 < L.many → S'[L.from_ + L.next + l.length + 1]? = some blankT
  old : ∀ k, (k < L.from_ + L.next ∨ L.from_ + L.next + l.length + 1 < k ∨ (k = L.from_ + L.next + l.length + 1 ∧ L.many ≤ L.next + l.length + 1)) → S'[k]? = S[k]?

/-- Some of it is laid, but not its end. -/
def halfAt (L : LM) (l : List Chg) (S : List ByteArray) (k : Nat) (s : ByteArray) : Prop :=
  S[k]? = some s ∨ (∃ j c, l[j]? = some c ∧ k = L.from_ + L.next + j ∧ s = opT L j c) ∨ (L.next + l.length + 1 < L.many ∧ k = L.from_ + L.next + l.length + 1 ∧ s = blankT)
structure Half (L : LM) (l : List Chg) (S S' : List ByteArray) : Prop where
  len : S'.length = S.length
  all : ∀ (k : Nat) (s : ByteArray), S'[k]? = some s → halfAt L l S k s

/-- What the first step leaves. -/
theorem layL_run (L : LM) (l : List Chg) (D : DM) (h1 : L.from_ + L.many ≤ D.now.length) (h2 : L.next + l.length + 1 ≤ L.many) (hw : D.wait = []) :
    ((layL L D l).1 = 0 ∨ (layL L D l).1 = 10) ∧ (layL L D l).2.kept = D.kept ∧ (layL L D l).2.now.length = D.now.length ∧ (∀ t ∈ (layL L D l).2.wait, halfAt L l D.now t.1 t.2) ∧
    ((layL L D l).1 = 0 → (∀ (j : Nat) (c : Chg), l[j]? = some c → (layL L D l).2.now[L.from_ + L.next + j]? = some (opT L j c)) ∧
      (L.next + l.length + 1 < L.many → (layL L D l).2.now[L.from_ + L.next + l.length + 1]? = some blankT) ∧
      (∀ k, (k < L.from_ + L.next ∨ k = L.from_ + L.next + l.length ∨ L.from_ + L.next + l.length + 1 < k ∨ (k = L.from_ + L.next + l.length + 1 ∧ L.many ≤ L.next + l.length + 1)) → (layL L D l).2.now[k]? = D.now[k]?)) := by
  obtain ⟨r1, r2, r3, ⟨ws, r4, r5⟩, r6⟩ := layD_run L l 0 D (by omega)
  have hop : ∀ t ∈ ws, halfAt L l D.now t.1 t.2 := fun t ht => by
    obtain ⟨j, c, hj, h3, h4⟩ := r5 t ht
    rw [Nat.zero_add] at h3 h4
    exact .inr (.inl ⟨j, c, hj, h3, h4⟩)
  rw [hw, List.nil_append] at r4
  simp only [Nat.zero_add, Nat.add_zero] at r6
  unfold layL
  split
  · rename_i h0
    obtain ⟨g1, g2⟩ := r6 h0
    split
    · rename_i hfit
      have hwc := write_cases (layD L D 0 l).2 (L.from_ + (L.next + l.length + 1)) ⟨#[]⟩ (by rw [r3]; omega) (Nat.zero_le _)
      rcases hwc with ⟨w0, w1, w2, w3, -⟩ | ⟨w0, w1, w2, w3⟩
      · refine ⟨.inl w0, w1.trans r2, by rw [w2, List.length_set, r3], ?_, fun _ => ⟨?_, ?_, ?_⟩⟩
        · intro t ht
          rw [w3, r4, List.mem_append] at ht
          rcases ht with ht | ht
          · exact hop t ht
          · obtain rfl : t = _ := by simpa using ht
            exact .inr (.inr ⟨hfit, by simp only; omega, rfl⟩)
        · intro j c hj
          have hjl := (List.getElem?_eq_some_iff.1 hj).1
          rw [w2, List.getElem?_set_ne (by omega)]
          exact g1 j c hj
        · intro _
          rw [w2, show L.from_ + L.next + l.length + 1 = L.from_ + (L.next + l.length + 1) by omega, List.getElem?_set_self (by rw [r3]; omega)]
          rfl
        · intro k hk
          rw [w2, List.getElem?_set_ne (by omega)]
          exact g2 k (by omega)
      · refine ⟨.inr w0, w1.trans r2, by rw [w2, r3], ?_, fun h => by omega⟩
        intro t ht
        rw [w3, r4] at ht
        exact hop t ht
    · rename_i hfit
      refine ⟨r1, r2, r3, fun t ht => hop t (by rw [← r4]; exact ht), fun h => ⟨g1, fun h => absurd h hfit, fun k hk => g2 k (by omega)⟩⟩
  · rename_i h0
    refine ⟨r1, r2, r3, fun t ht => hop t (by rw [← r4]; exact ht), fun h => absurd h h0⟩

theorem restart_now (D : DM) (keep : Nat) : (D.restart keep).now = keepFrom keep 0 D.wait D.kept ∧ (D.restart keep).kept = (D.restart keep).now ∧ (D.restart keep).wait = [] ∧ (D.restart keep).Ready :=
  ⟨rfl, rfl, rfl, rfl, rfl⟩

/-- The whole run: it is done, or the disk fell: then what is there is the half of it, or the whole. -/
theorem addRun_cases (L : LM) (l : List Chg) (D : DM) (h1 : L.from_ + L.many ≤ D.now.length) (h2 : L.next + l.length + 1 ≤ L.many) (hw : D.wait = []) (hk : D.kept = D.now) :
    ((addRun L l D [0, 1, 2, 3]).1 = 0 ∧ (addRun L l D [0, 1, 2, 3]).2.kept = (addRun L l D [0, 1, 2, 3]).2.now ∧ (addRun L l D [0, 1, 2, 3]).2.wait = [] ∧ (addRun L l D [0, 1, 2, 3]).2.down = false ∧ Full L l D.now (addRun L l D [0, 1, 2, 3]).2.now) ∨
    ((addRun L l D [0, 1, 2, 3]).1 = 10 ∧ ∀ keep, Half L l D.now ((addRun L l D [0, 1, 2, 3]).2.restart keep).now ∨ Full L l D.now ((addRun L l D [0, 1, 2, 3]).2.restart keep).now) := by
  obtain ⟨r1, r2, r3, r4, r5⟩ := layL_run L l D h1 h2 hw
  have halfR : ∀ (E : DM), E.kept = D.kept → (∀ t ∈ E.wait, halfAt L l D.now t.1 t.2) → ∀ keep, Half L l D.now (E.restart keep).now := fun E e1 e2 keep => by
    refine ⟨by rw [(restart_now E keep).1, keepFrom_length, e1, hk], fun k s hs => ?_⟩
    rw [(restart_now E keep).1] at hs
    exact keepFrom_all (halfAt L l D.now) keep E.wait 0 E.kept (fun k s hs => .inl (by rw [← hk, ← e1]; exact hs)) e2 k s hs
  unfold addRun
  rw [show addStep L l D 0 = layL L D l from rfl]
  by_cases h0 : (layL L D l).1 = 0
  case neg =>
    rw [if_neg h0]
    exact .inr ⟨by omega, fun keep => .inl (halfR _ r2 r4 keep)⟩
  rw [if_pos h0]
  obtain ⟨g1, g2, g3⟩ := r5 h0
  clear r5 r1 h0
  generalize (layL L D l).2 = E1 at *
  unfold addRun
  rw [show addStep L l E1 1 = E1.flush from rfl]
  rcases flush_cases E1 with ⟨f0, f1, f2, f3, f4⟩ | ⟨f0, f1, f2, f3⟩
  case inr =>
    rw [if_neg (by omega)]
    exact .inr ⟨f0, fun keep => .inl (halfR _ (f1.trans r2) (by rw [f3]; exact r4) keep)⟩
  rw [if_pos f0]
  -- behind the first flush
  have half1 : ∀ (k : Nat) (s : ByteArray), E1.now[k]? = some s → halfAt L l D.now k s := fun k s hs => by
    by_cases ha : L.from_ + L.next ≤ k ∧ k < L.from_ + L.next + l.length
    · obtain ⟨c, hc⟩ : ∃ c, l[k - (L.from_ + L.next)]? = some c := ⟨_, List.getElem?_eq_getElem (by omega)⟩
      have := g1 _ c hc
      rw [show L.from_ + L.next + (k - (L.from_ + L.next)) = k by omega, hs] at this
      cases this
      exact .inr (.inl ⟨_, c, hc, by omega, rfl⟩)
    · by_cases hb : k = L.from_ + L.next + l.length + 1 ∧ L.next + l.length + 1 < L.many
      · obtain ⟨rfl, hb⟩ := hb
        have := g2 hb
        rw [hs] at this
        cases this
        exact .inr (.inr ⟨hb, rfl, rfl⟩)
      · exact .inl (by rw [← g3 k (by omega)]; exact hs)
  have half2 : ∀ (E : DM), E.kept = E1.now → E.wait = [] → ∀ keep, Half L l D.now (E.restart keep).now := fun E e1 e2 keep => by
    refine ⟨by rw [(restart_now E keep).1, keepFrom_length, e1, r3], fun k s hs => ?_⟩
    rw [(restart_now E keep).1, e2, keepFrom, e1] at hs
    exact half1 k s hs
  have full : ∀ S, S = E1.now.set (L.from_ + (L.next + l.length)) (clT L l.length) → Full L l D.now S := fun S hS => by
    subst hS
    refine ⟨by rw [List.length_set, r3], fun j c hj => ?_, ?_, fun hb => ?_, fun k hk => ?_⟩
    · have := (List.getElem?_eq_some_iff.1 hj).1
      rw [List.getElem?_set_ne (by omega)]
      exact g1 j c hj
    · rw [show L.from_ + L.next + l.length = L.from_ + (L.next + l.length) by omega, List.getElem?_set_self (by omega)]
    · rw [List.getElem?_set_ne (by omega)]
      exact g2 hb
    · rw [List.getElem?_set_ne (by omega)]
      exact g3 k (by omega)
  generalize E1.flush.2 = E2 at *
  unfold addRun
  rw [show addStep L l E2 2 = E2.write ((L.from_ + (L.next + l.length) : Nat) : Int) (textB 99 (L.first + (L.next + l.length)) (fourB l.length)) from rfl]
  have hwc := write_cases E2 (L.from_ + (L.next + l.length)) (textB 99 (L.first + (L.next + l.length)) (fourB l.length)) (by rw [f2, r3]; omega) (by rw [textB_size]; exact (by decide : 7 + 4 ≤ 140))
  rcases hwc with ⟨w0, w1, w2, w3, -⟩ | ⟨w0, w1, w2, w3⟩
  case inr =>
    rw [if_neg (by omega)]
    exact .inr ⟨w0, fun keep => .inl (half2 _ (w1.trans f1) (w3.trans f3) keep)⟩
  rw [if_pos w0]
  generalize (E2.write ((L.from_ + (L.next + l.length) : Nat) : Int) (textB 99 (L.first + (L.next + l.length)) (fourB l.length))).2 = E3 at *
  unfold addRun
  rw [show addStep L l E3 3 = E3.flush from rfl]
  rcases flush_cases E3 with ⟨k0, k1, k2, k3, k4⟩ | ⟨k0, k1, k2, k3⟩
  · rw [if_pos k0]
    unfold addRun
    exact .inl ⟨rfl, k1.trans k2.symm, k3, k4, full _ (by rw [k2, w2, f2]; rfl)⟩
  · rw [if_neg (by omega)]
    refine .inr ⟨k0, fun keep => ?_⟩
    have hn := (restart_now E3.flush.2 keep).1
    rw [k3, w3, f3, k1, w1, f1, List.nil_append, keepFrom, keepFrom] at hn
    by_cases hbit : keep.testBit (0 % 64) = true
    · rw [if_pos hbit] at hn
      exact .inr (full _ hn)
    · rw [if_neg hbit] at hn
      refine .inl ⟨by rw [hn, r3], fun k s hs => half1 k s (by rw [← hn]; exact hs)⟩

theorem addRun_up (L : LM) (l : List Chg) (D : DM) (h1 : L.from_ + L.many ≤ D.now.length) (h2 : L.next + l.length + 1 ≤ L.many) (hw : D.wait = []) (hu : D.Ready) :
    (addRun L l D [0, 1, 2, 3]).1 = 0 ∧ (addRun L l D [0, 1, 2, 3]).2.Ready := by
  have hlay : (layL L D l).1 = 0 ∧ (layL L D l).2.Ready := by
    obtain ⟨a, b⟩ := layD_up L l 0 D hu (by omega)
    have hlen := (layD_run L l 0 D (by omega)).2.2.1
    unfold layL
    rw [if_pos a]
    split
    · exact write_up b (L.from_ + (L.next + l.length + 1)) ⟨#[]⟩ (by rw [hlen]; omega) (Nat.zero_le _)
    · exact ⟨a, b⟩
  have hlen := (layL_run L l D h1 h2 hw).2.2.1
  unfold addRun
  rw [show addStep L l D 0 = layL L D l from rfl, if_pos hlay.1]
  have hf := flush_up hlay.2
  have hfn : (layL L D l).2.flush.2.now.length = D.now.length := by
    rcases flush_cases (layL L D l).2 with ⟨-, -, f2, -⟩ | ⟨-, -, f2, -⟩ <;> rw [f2, hlen]
  unfold addRun
  rw [show addStep L l (layL L D l).2 1 = (layL L D l).2.flush from rfl, if_pos hf.1]
  have hc := write_up hf.2 (L.from_ + (L.next + l.length)) (textB 99 (L.first + (L.next + l.length)) (fourB l.length)) (by rw [hfn]; omega) (by rw [textB_size]; exact (by decide : 7 + 4 ≤ 140))
  unfold addRun
  rw [show addStep L l (layL L D l).2.flush.2 2 = (layL L D l).2.flush.2.write ((L.from_ + (L.next + l.length) : Nat) : Int) (textB 99 (L.first + (L.next + l.length)) (fourB l.length)) from rfl, if_pos hc.1]
  have hf2 := flush_up hc.2
  unfold addRun
  rw [show ∀ E, addStep L l E 3 = E.flush from fun _ => rfl, if_pos hf2.1]
  unfold addRun
  exact ⟨rfl, hf2.2⟩

end Go.Proofs.Ytkapmpngglibjaa
