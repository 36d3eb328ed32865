/- What is laid is read: plain. No condition beyond each law's own. -/
import Derived.Test.YtkapmpngglibjaaLogG
namespace Go.Proofs.Ytkapmpngglibjaa
open Go Go.RowKit

/-! ### what is laid is read -/

theorem ba_ext {a b : ByteArray} (h : a.data.toList = b.data.toList) : a = b := by
  obtain ⟨⟨a⟩⟩ := a
  obtain ⟨⟨b⟩⟩ := b
  simp at h
  subst h
  rfl

theorem extract_list (s : ByteArray) (a b : Nat) : (s.extract a b).data.toList = (s.data.toList.drop a).take (b - a) := by
  rw [ByteArray.data_extract, Array.toList_extract]

theorem padTo_list (n : Nat) (s : ByteArray) : (padTo n s).data.toList = s.data.toList ++ List.replicate (n - s.size) 0 := by
  simp [padTo]

theorem size_list (s : ByteArray) : s.size = s.data.toList.length := by
  rw [Array.length_toList]
  rfl

theorem text_list (kind n : Nat) (s : ByteArray) : (textB kind n s).data.toList =
    UInt8.ofNat kind :: UInt8.ofNat n :: UInt8.ofNat (n / 256) :: UInt8.ofNat (n / 65536) :: UInt8.ofNat (n / 16777216) :: UInt8.ofNat s.size :: UInt8.ofNat (s.size / 256) :: s.data.toList := by
  simp [textB, fourB]

theorem textB_size (kind n : Nat) (s : ByteArray) : (textB kind n s).size = 7 + s.size := by
  rw [size_list, text_list, size_list]
  simp only [List.length_cons]
  omega

theorem byteAt_list (s : ByteArray) (i : Nat) : byteAt s i = (s.data.toList[i]?.getD 0).toNat := by simp [byteAt]

theorem look_text (kind n : Nat) (s : ByteArray) (hk : kind = 111 ∨ kind = 99) (hs : s.size ≤ 133) : lookOf (padTo 140 (textB kind n s)) n = (kind, s, true) := by
  have hl : (padTo 140 (textB kind n s)).data.toList = UInt8.ofNat kind :: UInt8.ofNat n :: UInt8.ofNat (n / 256) :: UInt8.ofNat (n / 65536) :: UInt8.ofNat (n / 16777216) :: UInt8.ofNat s.size :: UInt8.ofNat (s.size / 256) ::
      (s.data.toList ++ List.replicate (140 - (7 + s.size)) 0) := by
    rw [padTo_list, text_list, textB_size]
    rfl
  have hkb : kind < 256 := by omega
  have b0 : byteAt (padTo 140 (textB kind n s)) 0 = kind := by
    rw [byteAt_list, hl]
    simp [Nat.mod_eq_of_lt hkb]
  have b5 : byteAt (padTo 140 (textB kind n s)) 5 = s.size := by
    rw [byteAt_list, hl]
    simp
    omega
  have b6 : byteAt (padTo 140 (textB kind n s)) 6 = 0 := by
    rw [byteAt_list, hl]
    have : s.size / 256 = 0 := by omega
    simp [this]
  have e15 : ((padTo 140 (textB kind n s)).extract 1 5) = fourB n := by
    apply ba_ext
    rw [extract_list, hl]
    rfl
  have e7 : (padTo 140 (textB kind n s)).extract 7 (7 + (s.size + 256 * 0)) = s := by
    apply ba_ext
    rw [extract_list, hl]
    simp only [List.drop_succ_cons, List.drop_zero, Nat.mul_zero, Nat.add_zero, Nat.add_sub_cancel_left, size_list]
    exact List.take_left
  unfold lookOf
  rw [b0, b5, b6, e15, e7]
  have : (kind == 111 || kind == 99) = true := by rcases hk with rfl | rfl <;> rfl
  rw [this]
  simp
  omega

theorem fourB_ne (n : Nat) (h0 : 0 < n) (h1 : n < 2147483648) : (fourB n).toList ≠ [0, 0, 0, 0] := by
  rw [ByteArray.toList_eq]
  intro h
  simp only [fourB, List.cons.injEq, and_true] at h
  obtain ⟨h1', h2, h3, h4⟩ := h
  have f : ∀ m : Nat, UInt8.ofNat m = 0 → m % 256 = 0 := fun m hm => by
    have := congrArg UInt8.toNat hm
    simpa using this
  have := f _ h1'
  have := f _ h2
  have := f _ h3
  have := f _ h4
  omega

/-- A blank sector is none. -/
theorem look_blank (n : Nat) (h0 : 0 < n) (h1 : n < 2147483648) : (lookOf (padTo 140 ⟨#[]⟩) n).2.2 = false := by
  have e : ((padTo 140 ⟨#[]⟩).extract 1 5).toList = [0, 0, 0, 0] := by
    rw [ByteArray.toList_eq, extract_list, padTo_list]
    rfl
  unfold lookOf
  rw [e]
  have : ([0, 0, 0, 0] == (fourB n).toList) = false := by
    rw [← Bool.not_eq_true, beq_iff_eq]
    exact fun h => fourB_ne n h0 h1 h.symm
  rw [this]
  rfl

theorem parse_bytes (c : Chg) (h : faultOf c = 0) : parseOf (bytesOf c) = (c, 0) := by
  have hk : c.key.size ≤ 48 := by
    unfold faultOf at h
    split at h
    · cases h
    · split at h
      · cases h
      · omega
  have hb : (bytesOf c).data.toList = (if c.gone then 1 else 0) :: UInt8.ofNat c.key.size :: (c.key.data.toList ++ c.val.data.toList) := by
    rw [bytesOf, if_pos h]
    simp [rawOf]
  have hsz : (bytesOf c).size = 2 + c.key.size + c.val.size := by
    rw [size_list, hb, size_list, size_list]
    simp only [List.length_cons, List.length_append]
    omega
  have b0 : byteAt (bytesOf c) 0 = if c.gone then 1 else 0 := by
    rw [byteAt_list, hb]
    cases c.gone <;> rfl
  have b1 : byteAt (bytesOf c) 1 = c.key.size := by
    rw [byteAt_list, hb]
    simp
    omega
  have hraw : rawParse (bytesOf c) = c := by
    have e1 : (bytesOf c).extract 2 (2 + c.key.size) = c.key := by
      apply ba_ext
      rw [extract_list, hb]
      simp only [List.drop_succ_cons, List.drop_zero, Nat.add_sub_cancel_left, size_list]
      exact List.take_left
    have e2 : (bytesOf c).extract (2 + c.key.size) (2 + c.key.size + c.val.size) = c.val := by
      apply ba_ext
      rw [extract_list, hb, show 2 + c.key.size = c.key.size + 2 by omega]
      simp only [List.drop_succ_cons, size_list]
      rw [List.drop_left, show c.key.data.toList.length + 2 + c.val.data.toList.length - (c.key.data.toList.length + 2) = c.val.data.toList.length by omega, List.take_length]
    rw [rawParse, b1, b0, hsz, e1, e2]
    obtain ⟨k, v, g⟩ := c
    cases g <;> rfl
  rw [parseOf, if_pos, hraw]
  refine ⟨by omega, ?_, by omega, by rw [hraw]; exact h⟩
  rw [b0]
  split <;> omega

end Go.Proofs.Ytkapmpngglibjaa
