/- Several texts in one: what each begins with says what it shows. Conditions: each law's own premises. -/
import Derived.Test.YtkapmpngglibjaaQ13
import Derived.Deep.RegionWith

/- Numbers in four bytes, and the text of a sector. Conditions: each contract's own premises. -/
namespace Go.Proofs.Ytkapmpngglibjaa
open Go Go.RowKit

/-- four bytes of a number, the lowest first. -/
def fourB (n : Nat) : ByteArray := ⟨#[UInt8.ofNat n, UInt8.ofNat (n / 256), UInt8.ofNat (n / 65536), UInt8.ofNat (n / 16777216)]⟩

theorem conv_four (u : World) (x y z t : Nat) (hx : x < 256) (hy : y < 256) (hz : z < 256) (ht : t < 256) :
    (convert 129 9 (.slice (some ⟨u.heap.size, 0, none⟩) 4 4)).run Try.prog (u.alloc (.cells #[.int .u8 (x : Int), .int .u8 (y : Int), .int .u8 (z : Int), .int .u8 (t : Int)] 5)) =
      .ok (.string ⟨#[UInt8.ofNat x, UInt8.ofNat y, UInt8.ofNat z, UInt8.ofNat t]⟩) (u.alloc (.cells #[.int .u8 (x : Int), .int .u8 (y : Int), .int .u8 (z : Int), .int .u8 (t : Int)] 5)) := by
  have hb := heap_alloc_new u (.cells #[.int .u8 (x : Int), .int .u8 (y : Int), .int .u8 (z : Int), .int .u8 (t : Int)] 5)
  have h := run_convert_bytes_back (P := Try.prog) (u.alloc (.cells #[.int .u8 (x : Int), .int .u8 (y : Int), .int .u8 (z : Int), .int .u8 (t : Int)] 5)) 129 9 5 ⟨u.heap.size, 0, none⟩ 4 [UInt8.ofNat x, UInt8.ofNat y, UInt8.ofNat z, UInt8.ofNat t] Try.underlying129 Try.underlying5 Try.underlying9
    (by
      intro j hj
      rw [add_off, Nat.zero_add, cell_of hb]
      match j, hj with
      | 0, _ => simp [Nat.mod_eq_of_lt hx]
      | 1, _ => simp [Nat.mod_eq_of_lt hy]
      | 2, _ => simp [Nat.mod_eq_of_lt hz]
      | 3, _ => simp [Nat.mod_eq_of_lt ht])
  simpa using h

theorem conv_fourI (u : World) (X Y Z T : Int) (x y z t : Nat) (hX : X = x) (hY : Y = y) (hZ : Z = z) (hT : T = t) (hx : x < 256) (hy : y < 256) (hz : z < 256) (ht : t < 256) :
    (convert 129 9 (.slice (some ⟨u.heap.size, 0, none⟩) 4 4)).run Try.prog (u.alloc (.cells #[.int .u8 X, .int .u8 Y, .int .u8 Z, .int .u8 T] 5)) =
      .ok (.string ⟨#[UInt8.ofNat x, UInt8.ofNat y, UInt8.ofNat z, UInt8.ofNat t]⟩) (u.alloc (.cells #[.int .u8 X, .int .u8 Y, .int .u8 Z, .int .u8 T] 5)) := by
  subst hX hY hZ hT
  exact conv_four u x y z t hx hy hz ht

set_option maxHeartbeats 1000000 in
set_option maxRecDepth 100000 in
theorem four_any (n : Nat) (w : World) (hn : n < 2147483648) :
    Calls Try.prog 83 #[.int .i64 (n : Int)] w (Ret (.string (fourB n)) fun w' => Below w.heap.size w w') := by
  have n0 : (0 : Int) ≤ (n : Int) := by omega
  have n1 : (n : Int) < 2147483648 := by omega
  have hc := conv_fourI w ((n : Int) % 256) ((n : Int) / 256 % 256) ((n : Int) / 65536 % 256) ((n : Int) / 16777216) (n % 256) (n / 256 % 256) (n / 65536 % 256) (n / 16777216) (by omega) (by omega) (by omega) (by omega) (by omega) (by omega) (by omega) (by omega)
  go_enter Try.func83, Try.ntmps83
  go_wp2_with fail
  go_ret
  refine Ret.of ?_ ((Below.refl _ _).alloc (Nat.le_refl _) _)
  have e : ∀ m : Nat, UInt8.ofNat (m % 256) = UInt8.ofNat m := fun m => by
    rw [← UInt8.toNat_inj]
    simp
  rw [e, e, e]
  rfl

set_option maxHeartbeats 1000000 in
set_option maxRecDepth 100000 in
theorem rfour_any (n : Nat) (w : World) (hn : n < 2147483648) :
    Calls Try.prog 88 #[.int .i64 (n : Int)] w (Ret (.string (fourB n)) fun w' => Below w.heap.size w w') := by
  have n0 : (0 : Int) ≤ (n : Int) := by omega
  have n1 : (n : Int) < 2147483648 := by omega
  have hc := conv_fourI w ((n : Int) % 256) ((n : Int) / 256 % 256) ((n : Int) / 65536 % 256) ((n : Int) / 16777216 % 256) (n % 256) (n / 256 % 256) (n / 65536 % 256) (n / 16777216 % 256) (by omega) (by omega) (by omega) (by omega) (by omega) (by omega) (by omega) (by omega)
  go_enter Try.func88, Try.ntmps88
  go_wp2_with fail
  go_ret
  refine Ret.of ?_ ((Below.refl _ _).alloc (Nat.le_refl _) _)
  have e : ∀ m : Nat, UInt8.ofNat (m % 256) = UInt8.ofNat m := fun m => by
    rw [← UInt8.toNat_inj]
    simp
  rw [e, e, e, e]
  rfl

/-- The text of a sector. -/
def textB (kind : Nat) (n : Nat) (s : ByteArray) : ByteArray := ⟨#[UInt8.ofNat kind]⟩ ++ fourB n ++ ⟨#[UInt8.ofNat s.size, UInt8.ofNat (s.size / 256)]⟩ ++ s

theorem conv_oneW (x : Nat) (hx : x < 256) (u : World) (b : Nat) (hb : u.heap[b]? = some (.cells #[.int .u8 (x : Int)] 5 (0, 0))) :
    (convert 129 9 (.slice (some ⟨b, 0, none⟩) 1 1)).run Try.prog u = .ok (.string ⟨#[UInt8.ofNat x]⟩) u := by
  have h := run_convert_bytes_back (P := Try.prog) u 129 9 5 ⟨b, 0, none⟩ 1 [UInt8.ofNat x] Try.underlying129 Try.underlying5 Try.underlying9
    (by
      intro j hj
      rw [add_off, Nat.zero_add, cell_of hb]
      match j, hj with
      | 0, _ => simp [Nat.mod_eq_of_lt hx])
  simpa using h

theorem conv_twoW (X Y : Int) (x y : Nat) (hX : X = x) (hY : Y = y) (hx : x < 256) (hy : y < 256) (u : World) (b : Nat) (hb : u.heap[b]? = some (.cells #[.int .u8 X, .int .u8 Y] 5 (0, 0))) :
    (convert 129 9 (.slice (some ⟨b, 0, none⟩) 2 2)).run Try.prog u = .ok (.string ⟨#[UInt8.ofNat x, UInt8.ofNat y]⟩) u := by
  subst hX hY
  have h := run_convert_bytes_back (P := Try.prog) u 129 9 5 ⟨b, 0, none⟩ 2 [UInt8.ofNat x, UInt8.ofNat y] Try.underlying129 Try.underlying5 Try.underlying9
    (by
      intro j hj
      rw [add_off, Nat.zero_add, cell_of hb]
      match j, hj with
      | 0, _ => simp [Nat.mod_eq_of_lt hx]
      | 1, _ => simp [Nat.mod_eq_of_lt hy])
  simpa using h

set_option maxHeartbeats 4000000 in
set_option maxRecDepth 100000 in
theorem text_any (kind n : Nat) (s : ByteArray) (w : World) (hk : kind < 256) (hn : n < 2147483648) (hs : s.size ≤ 200) :
    Calls Try.prog 87 #[.int .u8 (kind : Int), .int .i64 (n : Int), .string s] w (Ret (.string (textB kind n s)) fun w' => Below w.heap.size w w') := by
  have n0 : (0 : Int) ≤ (n : Int) := by omega
  have n1 : (n : Int) < 2147483648 := by omega
  have s1 : (s.size : Int) ≤ 200 := by omega
  have e1 : IntKind.u8.wrap (s.size : Int) = (s.size : Int) := by simp only [IntKind.wrap]; simp [IntKind.signed, IntKind.bits]; omega
  have e2 : (s.size : Int) / 256 = 0 := by omega
  have e3 : IntKind.u8.wrap 0 = 0 := by decide
  have f7 : ¬ (9223372036854775807 < 7 + s.size) := by omega
  have f4 : (fourB n).size = 4 := rfl
  have f5 : s.size / 256 = 0 := by omega
  go_enter Try.func87, Try.ntmps87
  go_wp2_with fail
  refine wp_region_any (by kernel_rfl) ?_
  try (change wpAny _ _ _ _ _ _ _ (World.drew _))
  have hB : Below w.heap.size w w.drew := (Below.refl _ _).drew
  generalize w.drew = w0 at hB ⊢
  have FIN : Value.string (textB kind n s) = Value.string (⟨#[UInt8.ofNat kind]⟩ ++ fourB n ++ ⟨#[UInt8.ofNat s.size, 0]⟩ ++ s) := by
    rw [textB, f5]
    rfl
  refine wpAny_take (i := 0) (v := ?_) rfl (by kernel_rfl) (by kernel_rfl) (by kernel_rfl) (fun _ _ _ h => h) (Or.inl ⟨by rfl, ?_⟩) ?_
  rotate_left
  · intro w
    go_simp; with_reducible rfl
  refine wpAny_take (i := 3) (v := ?_) rfl (by kernel_rfl) (by kernel_rfl) (by kernel_rfl) (fun _ _ _ h => h) (Or.inl ⟨by rfl, ?_⟩) ?_
  rotate_left
  · intro w
    go_simp; with_reducible rfl
  refine wpAny_take (i := 6) (v := ?_) rfl (by kernel_rfl) (by kernel_rfl) (by kernel_rfl) (fun _ _ _ h => h) (Or.inl ⟨by rfl, ?_⟩) ?_
  rotate_left
  · intro w
    go_simp; with_reducible rfl
  refine wpAny_take (i := 9) (v := ?_) rfl (by kernel_rfl) (by kernel_rfl) (by kernel_rfl) (fun _ _ _ h => h) (Or.inl ⟨by rfl, ?_⟩) ?_
  rotate_left
  · intro w
    go_simp; with_reducible rfl
  refine wpAny_take (i := 16) (v := ?_) rfl (by kernel_rfl) (by kernel_rfl) (by kernel_rfl) (fun _ _ _ h => h) (Or.inl ⟨by rfl, ?_⟩) ?_
  rotate_left
  · intro w
    go_simp; with_reducible rfl
  refine wpAny_take (i := 7) (v := ?_) rfl (by kernel_rfl) (by kernel_rfl) (by kernel_rfl) (fun _ _ _ h => h) (Or.inl ⟨by rfl, ?_⟩) ?_
  rotate_left
  · intro w
    go_simp; with_reducible rfl
  refine wpAny_take (i := 10) (v := ?_) rfl (by kernel_rfl) (by kernel_rfl) (by kernel_rfl) (fun _ _ _ h => h) (Or.inl ⟨by rfl, ?_⟩) ?_
  rotate_left
  · intro w
    go_simp; with_reducible rfl
  refine wpAny_take (i := 8) (v := ?_) rfl (by kernel_rfl) (by kernel_rfl) (by kernel_rfl) (fun _ _ _ h => h) (Or.inl ⟨by rfl, ?_⟩) ?_
  rotate_left
  · intro w
    go_simp; with_reducible rfl
  refine wpAny_take (i := 11) (v := ?_) rfl (by kernel_rfl) (by kernel_rfl) (by kernel_rfl) (fun _ _ _ h => h) (Or.inl ⟨by rfl, ?_⟩) ?_
  rotate_left
  · intro w
    go_simp; with_reducible rfl
  refine wpAny_take (i := 12) (v := ?_) rfl (by kernel_rfl) (by kernel_rfl) (by kernel_rfl) (fun _ _ _ h => h) (Or.inl ⟨by rfl, ?_⟩) ?_
  rotate_left
  · intro w
    go_simp; with_reducible rfl
  refine wpAny_ready (rs := [1, 4, 13]) (by kernel_rfl) (by simp) ?_
  refine AllReady.cons rfl (fun K hK => ?_) ?_
  · go_simp
    refine hK _ _ ?_
    clear hK K
    have hB := hB.alloc hB.size (.cells #[.int .u8 (kind : Int)] 5)
    have h8 := heap_alloc_new w0 (.cells #[.int .u8 (kind : Int)] 5)
    generalize w0.alloc (.cells #[.int .u8 (kind : Int)] 5) = w_1 at h8 hB ⊢
    generalize w0.heap.size = b8 at h8 ⊢
    refine wpAny_ready (rs := [2, 4, 13]) (by kernel_rfl) (by simp) ?_
    refine AllReady.cons rfl (fun K hK => ?_) ?_
    · go_simp
      rw [conv_oneW kind hk _ _ h8]
      go_simp
      refine hK _ _ ?_
      clear hK K
      refine wpAny_ready (rs := [4, 13]) (by kernel_rfl) (by simp) ?_
      refine AllReady.cons rfl (fun K hK => ?_) ?_
      · go_simp
        refine (four_any n _ hn).mono ?_
        rintro e w_1_2_4 ⟨rfl, hB4⟩
        have hB := hB.trans (hB4.mono hB.size)
        refine hK _ _ ?_
        clear hK K hB4
        refine wpAny_take (i := 5) (v := ?_) rfl (by kernel_rfl) (by kernel_rfl) (by kernel_rfl) (fun _ _ _ h => h) (Or.inl ⟨by rfl, ?_⟩) ?_
        rotate_left
        · intro w
          go_simp; with_reducible rfl
        refine wpAny_ready (rs := [13]) (by kernel_rfl) (by simp) ?_
        refine AllReady.cons rfl (fun K hK => ?_) ?_
        · go_simp
          refine hK _ _ ?_
          clear hK K
          have hB := hB.alloc hB.size (.cells #[.int .u8 (s.size : Int), .int .u8 0] 5)
          have h20 := heap_alloc_new w_1_2_4 (.cells #[.int .u8 (s.size : Int), .int .u8 0] 5)
          generalize w_1_2_4.alloc (.cells #[.int .u8 (s.size : Int), .int .u8 0] 5) = w_1_2_4_13 at h20 hB ⊢
          generalize w_1_2_4.heap.size = b20 at h20 ⊢
          refine wpAny_ready (rs := [14]) (by kernel_rfl) (by simp) ?_
          refine AllReady.cons rfl (fun K hK => ?_) ?_
          · go_simp
            rw [conv_twoW (s.size : Int) 0 s.size 0 rfl rfl (by omega) (by omega) _ _ h20]
            go_simp
            refine hK _ _ ?_
            clear hK K
            refine wpAny_take (i := 15) (v := ?_) rfl (by kernel_rfl) (by kernel_rfl) (by kernel_rfl) (fun _ _ _ h => h) (Or.inl ⟨by rfl, ?_⟩) ?_
            rotate_left
            · intro w
              go_simp; with_reducible rfl
            refine wpAny_take (i := 17) (v := ?_) rfl (by kernel_rfl) (by kernel_rfl) (by kernel_rfl) (fun _ _ _ h => h) (Or.inl ⟨by rfl, ?_⟩) ?_
            rotate_left
            · intro w
              go_simp; with_reducible rfl
            refine wpAny_take (i := 18) (v := ?_) rfl (by kernel_rfl) (by kernel_rfl) (by kernel_rfl) (fun _ _ _ h => h) (Or.inl ⟨by rfl, ?_⟩) ?_
            rotate_left
            · intro w
              go_simp; with_reducible rfl
            refine wpAny_done (by kernel_rfl) ?_ _
            go_wp2_with fail
            go_ret
            exact Ret.of FIN.symm hB
          exact AllReady.nil
        exact AllReady.nil
      refine AllReady.cons rfl (fun K hK => ?_) ?_
      · go_simp
        refine hK _ _ ?_
        clear hK K
        have hB := hB.alloc hB.size (.cells #[.int .u8 (s.size : Int), .int .u8 0] 5)
        have h20 := heap_alloc_new w_1 (.cells #[.int .u8 (s.size : Int), .int .u8 0] 5)
        generalize w_1.alloc (.cells #[.int .u8 (s.size : Int), .int .u8 0] 5) = w_1_2_13 at h20 hB ⊢
        generalize w_1.heap.size = b20 at h20 ⊢
        refine wpAny_ready (rs := [4, 14]) (by kernel_rfl) (by simp) ?_
        refine AllReady.cons rfl (fun K hK => ?_) ?_
        · go_simp
          refine (four_any n _ hn).mono ?_
          rintro e w_1_2_13_4 ⟨rfl, hB4⟩
          have h20 := (hB4.block _ (lt_of_heap h20)).trans h20
          have hB := hB.trans (hB4.mono hB.size)
          refine hK _ _ ?_
          clear hK K hB4
          refine wpAny_take (i := 5) (v := ?_) rfl (by kernel_rfl) (by kernel_rfl) (by kernel_rfl) (fun _ _ _ h => h) (Or.inl ⟨by rfl, ?_⟩) ?_
          rotate_left
          · intro w
            go_simp; with_reducible rfl
          refine wpAny_ready (rs := [14]) (by kernel_rfl) (by simp) ?_
          refine AllReady.cons rfl (fun K hK => ?_) ?_
          · go_simp
            rw [conv_twoW (s.size : Int) 0 s.size 0 rfl rfl (by omega) (by omega) _ _ h20]
            go_simp
            refine hK _ _ ?_
            clear hK K
            refine wpAny_take (i := 15) (v := ?_) rfl (by kernel_rfl) (by kernel_rfl) (by kernel_rfl) (fun _ _ _ h => h) (Or.inl ⟨by rfl, ?_⟩) ?_
            rotate_left
            · intro w
              go_simp; with_reducible rfl
            refine wpAny_take (i := 17) (v := ?_) rfl (by kernel_rfl) (by kernel_rfl) (by kernel_rfl) (fun _ _ _ h => h) (Or.inl ⟨by rfl, ?_⟩) ?_
            rotate_left
            · intro w
              go_simp; with_reducible rfl
            refine wpAny_take (i := 18) (v := ?_) rfl (by kernel_rfl) (by kernel_rfl) (by kernel_rfl) (fun _ _ _ h => h) (Or.inl ⟨by rfl, ?_⟩) ?_
            rotate_left
            · intro w
              go_simp; with_reducible rfl
            refine wpAny_done (by kernel_rfl) ?_ _
            go_wp2_with fail
            go_ret
            exact Ret.of FIN.symm hB
          exact AllReady.nil
        refine AllReady.cons rfl (fun K hK => ?_) ?_
        · go_simp
          rw [conv_twoW (s.size : Int) 0 s.size 0 rfl rfl (by omega) (by omega) _ _ h20]
          go_simp
          refine hK _ _ ?_
          clear hK K
          refine wpAny_ready (rs := [4]) (by kernel_rfl) (by simp) ?_
          refine AllReady.cons rfl (fun K hK => ?_) ?_
          · go_simp
            refine (four_any n _ hn).mono ?_
            rintro e w_1_2_13_14_4 ⟨rfl, hB4⟩
            have hB := hB.trans (hB4.mono hB.size)
            refine hK _ _ ?_
            clear hK K hB4
            refine wpAny_take (i := 5) (v := ?_) rfl (by kernel_rfl) (by kernel_rfl) (by kernel_rfl) (fun _ _ _ h => h) (Or.inl ⟨by rfl, ?_⟩) ?_
            rotate_left
            · intro w
              go_simp; with_reducible rfl
            refine wpAny_take (i := 15) (v := ?_) rfl (by kernel_rfl) (by kernel_rfl) (by kernel_rfl) (fun _ _ _ h => h) (Or.inl ⟨by rfl, ?_⟩) ?_
            rotate_left
            · intro w
              go_simp; with_reducible rfl
            refine wpAny_take (i := 17) (v := ?_) rfl (by kernel_rfl) (by kernel_rfl) (by kernel_rfl) (fun _ _ _ h => h) (Or.inl ⟨by rfl, ?_⟩) ?_
            rotate_left
            · intro w
              go_simp; with_reducible rfl
            refine wpAny_take (i := 18) (v := ?_) rfl (by kernel_rfl) (by kernel_rfl) (by kernel_rfl) (fun _ _ _ h => h) (Or.inl ⟨by rfl, ?_⟩) ?_
            rotate_left
            · intro w
              go_simp; with_reducible rfl
            refine wpAny_done (by kernel_rfl) ?_ _
            go_wp2_with fail
            go_ret
            exact Ret.of FIN.symm hB
          exact AllReady.nil
        exact AllReady.nil
      exact AllReady.nil
    refine AllReady.cons rfl (fun K hK => ?_) ?_
    · go_simp
      refine (four_any n _ hn).mono ?_
      rintro e w_1_4 ⟨rfl, hB4⟩
      have h8 := (hB4.block _ (lt_of_heap h8)).trans h8
      have hB := hB.trans (hB4.mono hB.size)
      refine hK _ _ ?_
      clear hK K hB4
      refine wpAny_ready (rs := [2, 13]) (by kernel_rfl) (by simp) ?_
      refine AllReady.cons rfl (fun K hK => ?_) ?_
      · go_simp
        rw [conv_oneW kind hk _ _ h8]
        go_simp
        refine hK _ _ ?_
        clear hK K
        refine wpAny_take (i := 5) (v := ?_) rfl (by kernel_rfl) (by kernel_rfl) (by kernel_rfl) (fun _ _ _ h => h) (Or.inl ⟨by rfl, ?_⟩) ?_
        rotate_left
        · intro w
          go_simp; with_reducible rfl
        refine wpAny_ready (rs := [13]) (by kernel_rfl) (by simp) ?_
        refine AllReady.cons rfl (fun K hK => ?_) ?_
        · go_simp
          refine hK _ _ ?_
          clear hK K
          have hB := hB.alloc hB.size (.cells #[.int .u8 (s.size : Int), .int .u8 0] 5)
          have h20 := heap_alloc_new w_1_4 (.cells #[.int .u8 (s.size : Int), .int .u8 0] 5)
          generalize w_1_4.alloc (.cells #[.int .u8 (s.size : Int), .int .u8 0] 5) = w_1_4_2_13 at h20 hB ⊢
          generalize w_1_4.heap.size = b20 at h20 ⊢
          refine wpAny_ready (rs := [14]) (by kernel_rfl) (by simp) ?_
          refine AllReady.cons rfl (fun K hK => ?_) ?_
          · go_simp
            rw [conv_twoW (s.size : Int) 0 s.size 0 rfl rfl (by omega) (by omega) _ _ h20]
            go_simp
            refine hK _ _ ?_
            clear hK K
            refine wpAny_take (i := 15) (v := ?_) rfl (by kernel_rfl) (by kernel_rfl) (by kernel_rfl) (fun _ _ _ h => h) (Or.inl ⟨by rfl, ?_⟩) ?_
            rotate_left
            · intro w
              go_simp; with_reducible rfl
            refine wpAny_take (i := 17) (v := ?_) rfl (by kernel_rfl) (by kernel_rfl) (by kernel_rfl) (fun _ _ _ h => h) (Or.inl ⟨by rfl, ?_⟩) ?_
            rotate_left
            · intro w
              go_simp; with_reducible rfl
            refine wpAny_take (i := 18) (v := ?_) rfl (by kernel_rfl) (by kernel_rfl) (by kernel_rfl) (fun _ _ _ h => h) (Or.inl ⟨by rfl, ?_⟩) ?_
            rotate_left
            · intro w
              go_simp; with_reducible rfl
            refine wpAny_done (by kernel_rfl) ?_ _
            go_wp2_with fail
            go_ret
            exact Ret.of FIN.symm hB
          exact AllReady.nil
        exact AllReady.nil
      refine AllReady.cons rfl (fun K hK => ?_) ?_
      · go_simp
        refine hK _ _ ?_
        clear hK K
        have hB := hB.alloc hB.size (.cells #[.int .u8 (s.size : Int), .int .u8 0] 5)
        have h8 := (heap_alloc_old w_1_4 (.cells #[.int .u8 (s.size : Int), .int .u8 0] 5) (lt_of_heap h8)).trans h8
        have h20 := heap_alloc_new w_1_4 (.cells #[.int .u8 (s.size : Int), .int .u8 0] 5)
        generalize w_1_4.alloc (.cells #[.int .u8 (s.size : Int), .int .u8 0] 5) = w_1_4_13 at h20 hB h8 ⊢
        generalize w_1_4.heap.size = b20 at h20 ⊢
        refine wpAny_ready (rs := [2, 14]) (by kernel_rfl) (by simp) ?_
        refine AllReady.cons rfl (fun K hK => ?_) ?_
        · go_simp
          rw [conv_oneW kind hk _ _ h8]
          go_simp
          refine hK _ _ ?_
          clear hK K
          refine wpAny_take (i := 5) (v := ?_) rfl (by kernel_rfl) (by kernel_rfl) (by kernel_rfl) (fun _ _ _ h => h) (Or.inl ⟨by rfl, ?_⟩) ?_
          rotate_left
          · intro w
            go_simp; with_reducible rfl
          refine wpAny_ready (rs := [14]) (by kernel_rfl) (by simp) ?_
          refine AllReady.cons rfl (fun K hK => ?_) ?_
          · go_simp
            rw [conv_twoW (s.size : Int) 0 s.size 0 rfl rfl (by omega) (by omega) _ _ h20]
            go_simp
            refine hK _ _ ?_
            clear hK K
            refine wpAny_take (i := 15) (v := ?_) rfl (by kernel_rfl) (by kernel_rfl) (by kernel_rfl) (fun _ _ _ h => h) (Or.inl ⟨by rfl, ?_⟩) ?_
            rotate_left
            · intro w
              go_simp; with_reducible rfl
            refine wpAny_take (i := 17) (v := ?_) rfl (by kernel_rfl) (by kernel_rfl) (by kernel_rfl) (fun _ _ _ h => h) (Or.inl ⟨by rfl, ?_⟩) ?_
            rotate_left
            · intro w
              go_simp; with_reducible rfl
            refine wpAny_take (i := 18) (v := ?_) rfl (by kernel_rfl) (by kernel_rfl) (by kernel_rfl) (fun _ _ _ h => h) (Or.inl ⟨by rfl, ?_⟩) ?_
            rotate_left
            · intro w
              go_simp; with_reducible rfl
            refine wpAny_done (by kernel_rfl) ?_ _
            go_wp2_with fail
            go_ret
            exact Ret.of FIN.symm hB
          exact AllReady.nil
        refine AllReady.cons rfl (fun K hK => ?_) ?_
        · go_simp
          rw [conv_twoW (s.size : Int) 0 s.size 0 rfl rfl (by omega) (by omega) _ _ h20]
          go_simp
          refine hK _ _ ?_
          clear hK K
          refine wpAny_ready (rs := [2]) (by kernel_rfl) (by simp) ?_
          refine AllReady.cons rfl (fun K hK => ?_) ?_
          · go_simp
            rw [conv_oneW kind hk _ _ h8]
            go_simp
            refine hK _ _ ?_
            clear hK K
            refine wpAny_take (i := 5) (v := ?_) rfl (by kernel_rfl) (by kernel_rfl) (by kernel_rfl) (fun _ _ _ h => h) (Or.inl ⟨by rfl, ?_⟩) ?_
            rotate_left
            · intro w
              go_simp; with_reducible rfl
            refine wpAny_take (i := 15) (v := ?_) rfl (by kernel_rfl) (by kernel_rfl) (by kernel_rfl) (fun _ _ _ h => h) (Or.inl ⟨by rfl, ?_⟩) ?_
            rotate_left
            · intro w
              go_simp; with_reducible rfl
            refine wpAny_take (i := 17) (v := ?_) rfl (by kernel_rfl) (by kernel_rfl) (by kernel_rfl) (fun _ _ _ h => h) (Or.inl ⟨by rfl, ?_⟩) ?_
            rotate_left
            · intro w
              go_simp; with_reducible rfl
            refine wpAny_take (i := 18) (v := ?_) rfl (by kernel_rfl) (by kernel_rfl) (by kernel_rfl) (fun _ _ _ h => h) (Or.inl ⟨by rfl, ?_⟩) ?_
            rotate_left
            · intro w
              go_simp; with_reducible rfl
            refine wpAny_done (by kernel_rfl) ?_ _
            go_wp2_with fail
            go_ret
            exact Ret.of FIN.symm hB
          exact AllReady.nil
        exact AllReady.nil
      exact AllReady.nil
    refine AllReady.cons rfl (fun K hK => ?_) ?_
    · go_simp
      refine hK _ _ ?_
      clear hK K
      have hB := hB.alloc hB.size (.cells #[.int .u8 (s.size : Int), .int .u8 0] 5)
      have h8 := (heap_alloc_old w_1 (.cells #[.int .u8 (s.size : Int), .int .u8 0] 5) (lt_of_heap h8)).trans h8
      have h20 := heap_alloc_new w_1 (.cells #[.int .u8 (s.size : Int), .int .u8 0] 5)
      generalize w_1.alloc (.cells #[.int .u8 (s.size : Int), .int .u8 0] 5) = w_1_13 at h20 hB h8 ⊢
      generalize w_1.heap.size = b20 at h20 ⊢
      refine wpAny_ready (rs := [2, 4, 14]) (by kernel_rfl) (by simp) ?_
      refine AllReady.cons rfl (fun K hK => ?_) ?_
      · go_simp
        rw [conv_oneW kind hk _ _ h8]
        go_simp
        refine hK _ _ ?_
        clear hK K
        refine wpAny_ready (rs := [4, 14]) (by kernel_rfl) (by simp) ?_
        refine AllReady.cons rfl (fun K hK => ?_) ?_
        · go_simp
          refine (four_any n _ hn).mono ?_
          rintro e w_1_13_2_4 ⟨rfl, hB4⟩
          have h20 := (hB4.block _ (lt_of_heap h20)).trans h20
          have hB := hB.trans (hB4.mono hB.size)
          refine hK _ _ ?_
          clear hK K hB4
          refine wpAny_take (i := 5) (v := ?_) rfl (by kernel_rfl) (by kernel_rfl) (by kernel_rfl) (fun _ _ _ h => h) (Or.inl ⟨by rfl, ?_⟩) ?_
          rotate_left
          · intro w
            go_simp; with_reducible rfl
          refine wpAny_ready (rs := [14]) (by kernel_rfl) (by simp) ?_
          refine AllReady.cons rfl (fun K hK => ?_) ?_
          · go_simp
            rw [conv_twoW (s.size : Int) 0 s.size 0 rfl rfl (by omega) (by omega) _ _ h20]
            go_simp
            refine hK _ _ ?_
            clear hK K
            refine wpAny_take (i := 15) (v := ?_) rfl (by kernel_rfl) (by kernel_rfl) (by kernel_rfl) (fun _ _ _ h => h) (Or.inl ⟨by rfl, ?_⟩) ?_
            rotate_left
            · intro w
              go_simp; with_reducible rfl
            refine wpAny_take (i := 17) (v := ?_) rfl (by kernel_rfl) (by kernel_rfl) (by kernel_rfl) (fun _ _ _ h => h) (Or.inl ⟨by rfl, ?_⟩) ?_
            rotate_left
            · intro w
              go_simp; with_reducible rfl
            refine wpAny_take (i := 18) (v := ?_) rfl (by kernel_rfl) (by kernel_rfl) (by kernel_rfl) (fun _ _ _ h => h) (Or.inl ⟨by rfl, ?_⟩) ?_
            rotate_left
            · intro w
              go_simp; with_reducible rfl
            refine wpAny_done (by kernel_rfl) ?_ _
            go_wp2_with fail
            go_ret
            exact Ret.of FIN.symm hB
          exact AllReady.nil
        refine AllReady.cons rfl (fun K hK => ?_) ?_
        · go_simp
          rw [conv_twoW (s.size : Int) 0 s.size 0 rfl rfl (by omega) (by omega) _ _ h20]
          go_simp
          refine hK _ _ ?_
          clear hK K
          refine wpAny_ready (rs := [4]) (by kernel_rfl) (by simp) ?_
          refine AllReady.cons rfl (fun K hK => ?_) ?_
          · go_simp
            refine (four_any n _ hn).mono ?_
            rintro e w_1_13_2_14_4 ⟨rfl, hB4⟩
            have hB := hB.trans (hB4.mono hB.size)
            refine hK _ _ ?_
            clear hK K hB4
            refine wpAny_take (i := 5) (v := ?_) rfl (by kernel_rfl) (by kernel_rfl) (by kernel_rfl) (fun _ _ _ h => h) (Or.inl ⟨by rfl, ?_⟩) ?_
            rotate_left
            · intro w
              go_simp; with_reducible rfl
            refine wpAny_take (i := 15) (v := ?_) rfl (by kernel_rfl) (by kernel_rfl) (by kernel_rfl) (fun _ _ _ h => h) (Or.inl ⟨by rfl, ?_⟩) ?_
            rotate_left
            · intro w
              go_simp; with_reducible rfl
            refine wpAny_take (i := 17) (v := ?_) rfl (by kernel_rfl) (by kernel_rfl) (by kernel_rfl) (fun _ _ _ h => h) (Or.inl ⟨by rfl, ?_⟩) ?_
            rotate_left
            · intro w
              go_simp; with_reducible rfl
            refine wpAny_take (i := 18) (v := ?_) rfl (by kernel_rfl) (by kernel_rfl) (by kernel_rfl) (fun _ _ _ h => h) (Or.inl ⟨by rfl, ?_⟩) ?_
            rotate_left
            · intro w
              go_simp; with_reducible rfl
            refine wpAny_done (by kernel_rfl) ?_ _
            go_wp2_with fail
            go_ret
            exact Ret.of FIN.symm hB
          exact AllReady.nil
        exact AllReady.nil
      refine AllReady.cons rfl (fun K hK => ?_) ?_
      · go_simp
        refine (four_any n _ hn).mono ?_
        rintro e w_1_13_4 ⟨rfl, hB4⟩
        have h8 := (hB4.block _ (lt_of_heap h8)).trans h8
        have h20 := (hB4.block _ (lt_of_heap h20)).trans h20
        have hB := hB.trans (hB4.mono hB.size)
        refine hK _ _ ?_
        clear hK K hB4
        refine wpAny_ready (rs := [2, 14]) (by kernel_rfl) (by simp) ?_
        refine AllReady.cons rfl (fun K hK => ?_) ?_
        · go_simp
          rw [conv_oneW kind hk _ _ h8]
          go_simp
          refine hK _ _ ?_
          clear hK K
          refine wpAny_take (i := 5) (v := ?_) rfl (by kernel_rfl) (by kernel_rfl) (by kernel_rfl) (fun _ _ _ h => h) (Or.inl ⟨by rfl, ?_⟩) ?_
          rotate_left
          · intro w
            go_simp; with_reducible rfl
          refine wpAny_ready (rs := [14]) (by kernel_rfl) (by simp) ?_
          refine AllReady.cons rfl (fun K hK => ?_) ?_
          · go_simp
            rw [conv_twoW (s.size : Int) 0 s.size 0 rfl rfl (by omega) (by omega) _ _ h20]
            go_simp
            refine hK _ _ ?_
            clear hK K
            refine wpAny_take (i := 15) (v := ?_) rfl (by kernel_rfl) (by kernel_rfl) (by kernel_rfl) (fun _ _ _ h => h) (Or.inl ⟨by rfl, ?_⟩) ?_
            rotate_left
            · intro w
              go_simp; with_reducible rfl
            refine wpAny_take (i := 17) (v := ?_) rfl (by kernel_rfl) (by kernel_rfl) (by kernel_rfl) (fun _ _ _ h => h) (Or.inl ⟨by rfl, ?_⟩) ?_
            rotate_left
            · intro w
              go_simp; with_reducible rfl
            refine wpAny_take (i := 18) (v := ?_) rfl (by kernel_rfl) (by kernel_rfl) (by kernel_rfl) (fun _ _ _ h => h) (Or.inl ⟨by rfl, ?_⟩) ?_
            rotate_left
            · intro w
              go_simp; with_reducible rfl
            refine wpAny_done (by kernel_rfl) ?_ _
            go_wp2_with fail
            go_ret
            exact Ret.of FIN.symm hB
          exact AllReady.nil
        refine AllReady.cons rfl (fun K hK => ?_) ?_
        · go_simp
          rw [conv_twoW (s.size : Int) 0 s.size 0 rfl rfl (by omega) (by omega) _ _ h20]
          go_simp
          refine hK _ _ ?_
          clear hK K
          refine wpAny_ready (rs := [2]) (by kernel_rfl) (by simp) ?_
          refine AllReady.cons rfl (fun K hK => ?_) ?_
          · go_simp
            rw [conv_oneW kind hk _ _ h8]
            go_simp
            refine hK _ _ ?_
            clear hK K
            refine wpAny_take (i := 5) (v := ?_) rfl (by kernel_rfl) (by kernel_rfl) (by kernel_rfl) (fun _ _ _ h => h) (Or.inl ⟨by rfl, ?_⟩) ?_
            rotate_left
            · intro w
              go_simp; with_reducible rfl
            refine wpAny_take (i := 15) (v := ?_) rfl (by kernel_rfl) (by kernel_rfl) (by kernel_rfl) (fun _ _ _ h => h) (Or.inl ⟨by rfl, ?_⟩) ?_
            rotate_left
            · intro w
              go_simp; with_reducible rfl
            refine wpAny_take (i := 17) (v := ?_) rfl (by kernel_rfl) (by kernel_rfl) (by kernel_rfl) (fun _ _ _ h => h) (Or.inl ⟨by rfl, ?_⟩) ?_
            rotate_left
            · intro w
              go_simp; with_reducible rfl
            refine wpAny_take (i := 18) (v := ?_) rfl (by kernel_rfl) (by kernel_rfl) (by kernel_rfl) (fun _ _ _ h => h) (Or.inl ⟨by rfl, ?_⟩) ?_
            rotate_left
            · intro w
              go_simp; with_reducible rfl
            refine wpAny_done (by kernel_rfl) ?_ _
            go_wp2_with fail
            go_ret
            exact Ret.of FIN.symm hB
          exact AllReady.nil
        exact AllReady.nil
      refine AllReady.cons rfl (fun K hK => ?_) ?_
      · go_simp
        rw [conv_twoW (s.size : Int) 0 s.size 0 rfl rfl (by omega) (by omega) _ _ h20]
        go_simp
        refine hK _ _ ?_
        clear hK K
        refine wpAny_ready (rs := [2, 4]) (by kernel_rfl) (by simp) ?_
        refine AllReady.cons rfl (fun K hK => ?_) ?_
        · go_simp
          rw [conv_oneW kind hk _ _ h8]
          go_simp
          refine hK _ _ ?_
          clear hK K
          refine wpAny_ready (rs := [4]) (by kernel_rfl) (by simp) ?_
          refine AllReady.cons rfl (fun K hK => ?_) ?_
          · go_simp
            refine (four_any n _ hn).mono ?_
            rintro e w_1_13_14_2_4 ⟨rfl, hB4⟩
            have hB := hB.trans (hB4.mono hB.size)
            refine hK _ _ ?_
            clear hK K hB4
            refine wpAny_take (i := 5) (v := ?_) rfl (by kernel_rfl) (by kernel_rfl) (by kernel_rfl) (fun _ _ _ h => h) (Or.inl ⟨by rfl, ?_⟩) ?_
            rotate_left
            · intro w
              go_simp; with_reducible rfl
            refine wpAny_take (i := 15) (v := ?_) rfl (by kernel_rfl) (by kernel_rfl) (by kernel_rfl) (fun _ _ _ h => h) (Or.inl ⟨by rfl, ?_⟩) ?_
            rotate_left
            · intro w
              go_simp; with_reducible rfl
            refine wpAny_take (i := 17) (v := ?_) rfl (by kernel_rfl) (by kernel_rfl) (by kernel_rfl) (fun _ _ _ h => h) (Or.inl ⟨by rfl, ?_⟩) ?_
            rotate_left
            · intro w
              go_simp; with_reducible rfl
            refine wpAny_take (i := 18) (v := ?_) rfl (by kernel_rfl) (by kernel_rfl) (by kernel_rfl) (fun _ _ _ h => h) (Or.inl ⟨by rfl, ?_⟩) ?_
            rotate_left
            · intro w
              go_simp; with_reducible rfl
            refine wpAny_done (by kernel_rfl) ?_ _
            go_wp2_with fail
            go_ret
            exact Ret.of FIN.symm hB
          exact AllReady.nil
        refine AllReady.cons rfl (fun K hK => ?_) ?_
        · go_simp
          refine (four_any n _ hn).mono ?_
          rintro e w_1_13_14_4 ⟨rfl, hB4⟩
          have h8 := (hB4.block _ (lt_of_heap h8)).trans h8
          have hB := hB.trans (hB4.mono hB.size)
          refine hK _ _ ?_
          clear hK K hB4
          refine wpAny_ready (rs := [2]) (by kernel_rfl) (by simp) ?_
          refine AllReady.cons rfl (fun K hK => ?_) ?_
          · go_simp
            rw [conv_oneW kind hk _ _ h8]
            go_simp
            refine hK _ _ ?_
            clear hK K
            refine wpAny_take (i := 5) (v := ?_) rfl (by kernel_rfl) (by kernel_rfl) (by kernel_rfl) (fun _ _ _ h => h) (Or.inl ⟨by rfl, ?_⟩) ?_
            rotate_left
            · intro w
              go_simp; with_reducible rfl
            refine wpAny_take (i := 15) (v := ?_) rfl (by kernel_rfl) (by kernel_rfl) (by kernel_rfl) (fun _ _ _ h => h) (Or.inl ⟨by rfl, ?_⟩) ?_
            rotate_left
            · intro w
              go_simp; with_reducible rfl
            refine wpAny_take (i := 17) (v := ?_) rfl (by kernel_rfl) (by kernel_rfl) (by kernel_rfl) (fun _ _ _ h => h) (Or.inl ⟨by rfl, ?_⟩) ?_
            rotate_left
            · intro w
              go_simp; with_reducible rfl
            refine wpAny_take (i := 18) (v := ?_) rfl (by kernel_rfl) (by kernel_rfl) (by kernel_rfl) (fun _ _ _ h => h) (Or.inl ⟨by rfl, ?_⟩) ?_
            rotate_left
            · intro w
              go_simp; with_reducible rfl
            refine wpAny_done (by kernel_rfl) ?_ _
            go_wp2_with fail
            go_ret
            exact Ret.of FIN.symm hB
          exact AllReady.nil
        exact AllReady.nil
      exact AllReady.nil
    exact AllReady.nil
  refine AllReady.cons rfl (fun K hK => ?_) ?_
  · go_simp
    refine (four_any n _ hn).mono ?_
    rintro e w_4 ⟨rfl, hB4⟩
    have hB := hB.trans (hB4.mono hB.size)
    refine hK _ _ ?_
    clear hK K hB4
    refine wpAny_ready (rs := [1, 13]) (by kernel_rfl) (by simp) ?_
    refine AllReady.cons rfl (fun K hK => ?_) ?_
    · go_simp
      refine hK _ _ ?_
      clear hK K
      have hB := hB.alloc hB.size (.cells #[.int .u8 (kind : Int)] 5)
      have h8 := heap_alloc_new w_4 (.cells #[.int .u8 (kind : Int)] 5)
      generalize w_4.alloc (.cells #[.int .u8 (kind : Int)] 5) = w_4_1 at h8 hB ⊢
      generalize w_4.heap.size = b8 at h8 ⊢
      refine wpAny_ready (rs := [2, 13]) (by kernel_rfl) (by simp) ?_
      refine AllReady.cons rfl (fun K hK => ?_) ?_
      · go_simp
        rw [conv_oneW kind hk _ _ h8]
        go_simp
        refine hK _ _ ?_
        clear hK K
        refine wpAny_take (i := 5) (v := ?_) rfl (by kernel_rfl) (by kernel_rfl) (by kernel_rfl) (fun _ _ _ h => h) (Or.inl ⟨by rfl, ?_⟩) ?_
        rotate_left
        · intro w
          go_simp; with_reducible rfl
        refine wpAny_ready (rs := [13]) (by kernel_rfl) (by simp) ?_
        refine AllReady.cons rfl (fun K hK => ?_) ?_
        · go_simp
          refine hK _ _ ?_
          clear hK K
          have hB := hB.alloc hB.size (.cells #[.int .u8 (s.size : Int), .int .u8 0] 5)
          have h20 := heap_alloc_new w_4_1 (.cells #[.int .u8 (s.size : Int), .int .u8 0] 5)
          generalize w_4_1.alloc (.cells #[.int .u8 (s.size : Int), .int .u8 0] 5) = w_4_1_2_13 at h20 hB ⊢
          generalize w_4_1.heap.size = b20 at h20 ⊢
          refine wpAny_ready (rs := [14]) (by kernel_rfl) (by simp) ?_
          refine AllReady.cons rfl (fun K hK => ?_) ?_
          · go_simp
            rw [conv_twoW (s.size : Int) 0 s.size 0 rfl rfl (by omega) (by omega) _ _ h20]
            go_simp
            refine hK _ _ ?_
            clear hK K
            refine wpAny_take (i := 15) (v := ?_) rfl (by kernel_rfl) (by kernel_rfl) (by kernel_rfl) (fun _ _ _ h => h) (Or.inl ⟨by rfl, ?_⟩) ?_
            rotate_left
            · intro w
              go_simp; with_reducible rfl
            refine wpAny_take (i := 17) (v := ?_) rfl (by kernel_rfl) (by kernel_rfl) (by kernel_rfl) (fun _ _ _ h => h) (Or.inl ⟨by rfl, ?_⟩) ?_
            rotate_left
            · intro w
              go_simp; with_reducible rfl
            refine wpAny_take (i := 18) (v := ?_) rfl (by kernel_rfl) (by kernel_rfl) (by kernel_rfl) (fun _ _ _ h => h) (Or.inl ⟨by rfl, ?_⟩) ?_
            rotate_left
            · intro w
              go_simp; with_reducible rfl
            refine wpAny_done (by kernel_rfl) ?_ _
            go_wp2_with fail
            go_ret
            exact Ret.of FIN.symm hB
          exact AllReady.nil
        exact AllReady.nil
      refine AllReady.cons rfl (fun K hK => ?_) ?_
      · go_simp
        refine hK _ _ ?_
        clear hK K
        have hB := hB.alloc hB.size (.cells #[.int .u8 (s.size : Int), .int .u8 0] 5)
        have h8 := (heap_alloc_old w_4_1 (.cells #[.int .u8 (s.size : Int), .int .u8 0] 5) (lt_of_heap h8)).trans h8
        have h20 := heap_alloc_new w_4_1 (.cells #[.int .u8 (s.size : Int), .int .u8 0] 5)
        generalize w_4_1.alloc (.cells #[.int .u8 (s.size : Int), .int .u8 0] 5) = w_4_1_13 at h20 hB h8 ⊢
        generalize w_4_1.heap.size = b20 at h20 ⊢
        refine wpAny_ready (rs := [2, 14]) (by kernel_rfl) (by simp) ?_
        refine AllReady.cons rfl (fun K hK => ?_) ?_
        · go_simp
          rw [conv_oneW kind hk _ _ h8]
          go_simp
          refine hK _ _ ?_
          clear hK K
          refine wpAny_take (i := 5) (v := ?_) rfl (by kernel_rfl) (by kernel_rfl) (by kernel_rfl) (fun _ _ _ h => h) (Or.inl ⟨by rfl, ?_⟩) ?_
          rotate_left
          · intro w
            go_simp; with_reducible rfl
          refine wpAny_ready (rs := [14]) (by kernel_rfl) (by simp) ?_
          refine AllReady.cons rfl (fun K hK => ?_) ?_
          · go_simp
            rw [conv_twoW (s.size : Int) 0 s.size 0 rfl rfl (by omega) (by omega) _ _ h20]
            go_simp
            refine hK _ _ ?_
            clear hK K
            refine wpAny_take (i := 15) (v := ?_) rfl (by kernel_rfl) (by kernel_rfl) (by kernel_rfl) (fun _ _ _ h => h) (Or.inl ⟨by rfl, ?_⟩) ?_
            rotate_left
            · intro w
              go_simp; with_reducible rfl
            refine wpAny_take (i := 17) (v := ?_) rfl (by kernel_rfl) (by kernel_rfl) (by kernel_rfl) (fun _ _ _ h => h) (Or.inl ⟨by rfl, ?_⟩) ?_
            rotate_left
            · intro w
              go_simp; with_reducible rfl
            refine wpAny_take (i := 18) (v := ?_) rfl (by kernel_rfl) (by kernel_rfl) (by kernel_rfl) (fun _ _ _ h => h) (Or.inl ⟨by rfl, ?_⟩) ?_
            rotate_left
            · intro w
              go_simp; with_reducible rfl
            refine wpAny_done (by kernel_rfl) ?_ _
            go_wp2_with fail
            go_ret
            exact Ret.of FIN.symm hB
          exact AllReady.nil
        refine AllReady.cons rfl (fun K hK => ?_) ?_
        · go_simp
          rw [conv_twoW (s.size : Int) 0 s.size 0 rfl rfl (by omega) (by omega) _ _ h20]
          go_simp
          refine hK _ _ ?_
          clear hK K
          refine wpAny_ready (rs := [2]) (by kernel_rfl) (by simp) ?_
          refine AllReady.cons rfl (fun K hK => ?_) ?_
          · go_simp
            rw [conv_oneW kind hk _ _ h8]
            go_simp
            refine hK _ _ ?_
            clear hK K
            refine wpAny_take (i := 5) (v := ?_) rfl (by kernel_rfl) (by kernel_rfl) (by kernel_rfl) (fun _ _ _ h => h) (Or.inl ⟨by rfl, ?_⟩) ?_
            rotate_left
            · intro w
              go_simp; with_reducible rfl
            refine wpAny_take (i := 15) (v := ?_) rfl (by kernel_rfl) (by kernel_rfl) (by kernel_rfl) (fun _ _ _ h => h) (Or.inl ⟨by rfl, ?_⟩) ?_
            rotate_left
            · intro w
              go_simp; with_reducible rfl
            refine wpAny_take (i := 17) (v := ?_) rfl (by kernel_rfl) (by kernel_rfl) (by kernel_rfl) (fun _ _ _ h => h) (Or.inl ⟨by rfl, ?_⟩) ?_
            rotate_left
            · intro w
              go_simp; with_reducible rfl
            refine wpAny_take (i := 18) (v := ?_) rfl (by kernel_rfl) (by kernel_rfl) (by kernel_rfl) (fun _ _ _ h => h) (Or.inl ⟨by rfl, ?_⟩) ?_
            rotate_left
            · intro w
              go_simp; with_reducible rfl
            refine wpAny_done (by kernel_rfl) ?_ _
            go_wp2_with fail
            go_ret
            exact Ret.of FIN.symm hB
          exact AllReady.nil
        exact AllReady.nil
      exact AllReady.nil
    refine AllReady.cons rfl (fun K hK => ?_) ?_
    · go_simp
      refine hK _ _ ?_
      clear hK K
      have hB := hB.alloc hB.size (.cells #[.int .u8 (s.size : Int), .int .u8 0] 5)
      have h20 := heap_alloc_new w_4 (.cells #[.int .u8 (s.size : Int), .int .u8 0] 5)
      generalize w_4.alloc (.cells #[.int .u8 (s.size : Int), .int .u8 0] 5) = w_4_13 at h20 hB ⊢
      generalize w_4.heap.size = b20 at h20 ⊢
      refine wpAny_ready (rs := [1, 14]) (by kernel_rfl) (by simp) ?_
      refine AllReady.cons rfl (fun K hK => ?_) ?_
      · go_simp
        refine hK _ _ ?_
        clear hK K
        have hB := hB.alloc hB.size (.cells #[.int .u8 (kind : Int)] 5)
        have h20 := (heap_alloc_old w_4_13 (.cells #[.int .u8 (kind : Int)] 5) (lt_of_heap h20)).trans h20
        have h8 := heap_alloc_new w_4_13 (.cells #[.int .u8 (kind : Int)] 5)
        generalize w_4_13.alloc (.cells #[.int .u8 (kind : Int)] 5) = w_4_13_1 at h8 hB h20 ⊢
        generalize w_4_13.heap.size = b8 at h8 ⊢
        refine wpAny_ready (rs := [2, 14]) (by kernel_rfl) (by simp) ?_
        refine AllReady.cons rfl (fun K hK => ?_) ?_
        · go_simp
          rw [conv_oneW kind hk _ _ h8]
          go_simp
          refine hK _ _ ?_
          clear hK K
          refine wpAny_take (i := 5) (v := ?_) rfl (by kernel_rfl) (by kernel_rfl) (by kernel_rfl) (fun _ _ _ h => h) (Or.inl ⟨by rfl, ?_⟩) ?_
          rotate_left
          · intro w
            go_simp; with_reducible rfl
          refine wpAny_ready (rs := [14]) (by kernel_rfl) (by simp) ?_
          refine AllReady.cons rfl (fun K hK => ?_) ?_
          · go_simp
            rw [conv_twoW (s.size : Int) 0 s.size 0 rfl rfl (by omega) (by omega) _ _ h20]
            go_simp
            refine hK _ _ ?_
            clear hK K
            refine wpAny_take (i := 15) (v := ?_) rfl (by kernel_rfl) (by kernel_rfl) (by kernel_rfl) (fun _ _ _ h => h) (Or.inl ⟨by rfl, ?_⟩) ?_
            rotate_left
            · intro w
              go_simp; with_reducible rfl
            refine wpAny_take (i := 17) (v := ?_) rfl (by kernel_rfl) (by kernel_rfl) (by kernel_rfl) (fun _ _ _ h => h) (Or.inl ⟨by rfl, ?_⟩) ?_
            rotate_left
            · intro w
              go_simp; with_reducible rfl
            refine wpAny_take (i := 18) (v := ?_) rfl (by kernel_rfl) (by kernel_rfl) (by kernel_rfl) (fun _ _ _ h => h) (Or.inl ⟨by rfl, ?_⟩) ?_
            rotate_left
            · intro w
              go_simp; with_reducible rfl
            refine wpAny_done (by kernel_rfl) ?_ _
            go_wp2_with fail
            go_ret
            exact Ret.of FIN.symm hB
          exact AllReady.nil
        refine AllReady.cons rfl (fun K hK => ?_) ?_
        · go_simp
          rw [conv_twoW (s.size : Int) 0 s.size 0 rfl rfl (by omega) (by omega) _ _ h20]
          go_simp
          refine hK _ _ ?_
          clear hK K
          refine wpAny_ready (rs := [2]) (by kernel_rfl) (by simp) ?_
          refine AllReady.cons rfl (fun K hK => ?_) ?_
          · go_simp
            rw [conv_oneW kind hk _ _ h8]
            go_simp
            refine hK _ _ ?_
            clear hK K
            refine wpAny_take (i := 5) (v := ?_) rfl (by kernel_rfl) (by kernel_rfl) (by kernel_rfl) (fun _ _ _ h => h) (Or.inl ⟨by rfl, ?_⟩) ?_
            rotate_left
            · intro w
              go_simp; with_reducible rfl
            refine wpAny_take (i := 15) (v := ?_) rfl (by kernel_rfl) (by kernel_rfl) (by kernel_rfl) (fun _ _ _ h => h) (Or.inl ⟨by rfl, ?_⟩) ?_
            rotate_left
            · intro w
              go_simp; with_reducible rfl
            refine wpAny_take (i := 17) (v := ?_) rfl (by kernel_rfl) (by kernel_rfl) (by kernel_rfl) (fun _ _ _ h => h) (Or.inl ⟨by rfl, ?_⟩) ?_
            rotate_left
            · intro w
              go_simp; with_reducible rfl
            refine wpAny_take (i := 18) (v := ?_) rfl (by kernel_rfl) (by kernel_rfl) (by kernel_rfl) (fun _ _ _ h => h) (Or.inl ⟨by rfl, ?_⟩) ?_
            rotate_left
            · intro w
              go_simp; with_reducible rfl
            refine wpAny_done (by kernel_rfl) ?_ _
            go_wp2_with fail
            go_ret
            exact Ret.of FIN.symm hB
          exact AllReady.nil
        exact AllReady.nil
      refine AllReady.cons rfl (fun K hK => ?_) ?_
      · go_simp
        rw [conv_twoW (s.size : Int) 0 s.size 0 rfl rfl (by omega) (by omega) _ _ h20]
        go_simp
        refine hK _ _ ?_
        clear hK K
        refine wpAny_ready (rs := [1]) (by kernel_rfl) (by simp) ?_
        refine AllReady.cons rfl (fun K hK => ?_) ?_
        · go_simp
          refine hK _ _ ?_
          clear hK K
          have hB := hB.alloc hB.size (.cells #[.int .u8 (kind : Int)] 5)
          have h8 := heap_alloc_new w_4_13 (.cells #[.int .u8 (kind : Int)] 5)
          generalize w_4_13.alloc (.cells #[.int .u8 (kind : Int)] 5) = w_4_13_14_1 at h8 hB ⊢
          generalize w_4_13.heap.size = b8 at h8 ⊢
          refine wpAny_ready (rs := [2]) (by kernel_rfl) (by simp) ?_
          refine AllReady.cons rfl (fun K hK => ?_) ?_
          · go_simp
            rw [conv_oneW kind hk _ _ h8]
            go_simp
            refine hK _ _ ?_
            clear hK K
            refine wpAny_take (i := 5) (v := ?_) rfl (by kernel_rfl) (by kernel_rfl) (by kernel_rfl) (fun _ _ _ h => h) (Or.inl ⟨by rfl, ?_⟩) ?_
            rotate_left
            · intro w
              go_simp; with_reducible rfl
            refine wpAny_take (i := 15) (v := ?_) rfl (by kernel_rfl) (by kernel_rfl) (by kernel_rfl) (fun _ _ _ h => h) (Or.inl ⟨by rfl, ?_⟩) ?_
            rotate_left
            · intro w
              go_simp; with_reducible rfl
            refine wpAny_take (i := 17) (v := ?_) rfl (by kernel_rfl) (by kernel_rfl) (by kernel_rfl) (fun _ _ _ h => h) (Or.inl ⟨by rfl, ?_⟩) ?_
            rotate_left
            · intro w
              go_simp; with_reducible rfl
            refine wpAny_take (i := 18) (v := ?_) rfl (by kernel_rfl) (by kernel_rfl) (by kernel_rfl) (fun _ _ _ h => h) (Or.inl ⟨by rfl, ?_⟩) ?_
            rotate_left
            · intro w
              go_simp; with_reducible rfl
            refine wpAny_done (by kernel_rfl) ?_ _
            go_wp2_with fail
            go_ret
            exact Ret.of FIN.symm hB
          exact AllReady.nil
        exact AllReady.nil
      exact AllReady.nil
    exact AllReady.nil
  refine AllReady.cons rfl (fun K hK => ?_) ?_
  · go_simp
    refine hK _ _ ?_
    clear hK K
    have hB := hB.alloc hB.size (.cells #[.int .u8 (s.size : Int), .int .u8 0] 5)
    have h20 := heap_alloc_new w0 (.cells #[.int .u8 (s.size : Int), .int .u8 0] 5)
    generalize w0.alloc (.cells #[.int .u8 (s.size : Int), .int .u8 0] 5) = w_13 at h20 hB ⊢
    generalize w0.heap.size = b20 at h20 ⊢
    refine wpAny_ready (rs := [1, 4, 14]) (by kernel_rfl) (by simp) ?_
    refine AllReady.cons rfl (fun K hK => ?_) ?_
    · go_simp
      refine hK _ _ ?_
      clear hK K
      have hB := hB.alloc hB.size (.cells #[.int .u8 (kind : Int)] 5)
      have h20 := (heap_alloc_old w_13 (.cells #[.int .u8 (kind : Int)] 5) (lt_of_heap h20)).trans h20
      have h8 := heap_alloc_new w_13 (.cells #[.int .u8 (kind : Int)] 5)
      generalize w_13.alloc (.cells #[.int .u8 (kind : Int)] 5) = w_13_1 at h8 hB h20 ⊢
      generalize w_13.heap.size = b8 at h8 ⊢
      refine wpAny_ready (rs := [2, 4, 14]) (by kernel_rfl) (by simp) ?_
      refine AllReady.cons rfl (fun K hK => ?_) ?_
      · go_simp
        rw [conv_oneW kind hk _ _ h8]
        go_simp
        refine hK _ _ ?_
        clear hK K
        refine wpAny_ready (rs := [4, 14]) (by kernel_rfl) (by simp) ?_
        refine AllReady.cons rfl (fun K hK => ?_) ?_
        · go_simp
          refine (four_any n _ hn).mono ?_
          rintro e w_13_1_2_4 ⟨rfl, hB4⟩
          have h20 := (hB4.block _ (lt_of_heap h20)).trans h20
          have hB := hB.trans (hB4.mono hB.size)
          refine hK _ _ ?_
          clear hK K hB4
          refine wpAny_take (i := 5) (v := ?_) rfl (by kernel_rfl) (by kernel_rfl) (by kernel_rfl) (fun _ _ _ h => h) (Or.inl ⟨by rfl, ?_⟩) ?_
          rotate_left
          · intro w
            go_simp; with_reducible rfl
          refine wpAny_ready (rs := [14]) (by kernel_rfl) (by simp) ?_
          refine AllReady.cons rfl (fun K hK => ?_) ?_
          · go_simp
            rw [conv_twoW (s.size : Int) 0 s.size 0 rfl rfl (by omega) (by omega) _ _ h20]
            go_simp
            refine hK _ _ ?_
            clear hK K
            refine wpAny_take (i := 15) (v := ?_) rfl (by kernel_rfl) (by kernel_rfl) (by kernel_rfl) (fun _ _ _ h => h) (Or.inl ⟨by rfl, ?_⟩) ?_
            rotate_left
            · intro w
              go_simp; with_reducible rfl
            refine wpAny_take (i := 17) (v := ?_) rfl (by kernel_rfl) (by kernel_rfl) (by kernel_rfl) (fun _ _ _ h => h) (Or.inl ⟨by rfl, ?_⟩) ?_
            rotate_left
            · intro w
              go_simp; with_reducible rfl
            refine wpAny_take (i := 18) (v := ?_) rfl (by kernel_rfl) (by kernel_rfl) (by kernel_rfl) (fun _ _ _ h => h) (Or.inl ⟨by rfl, ?_⟩) ?_
            rotate_left
            · intro w
              go_simp; with_reducible rfl
            refine wpAny_done (by kernel_rfl) ?_ _
            go_wp2_with fail
            go_ret
            exact Ret.of FIN.symm hB
          exact AllReady.nil
        refine AllReady.cons rfl (fun K hK => ?_) ?_
        · go_simp
          rw [conv_twoW (s.size : Int) 0 s.size 0 rfl rfl (by omega) (by omega) _ _ h20]
          go_simp
          refine hK _ _ ?_
          clear hK K
          refine wpAny_ready (rs := [4]) (by kernel_rfl) (by simp) ?_
          refine AllReady.cons rfl (fun K hK => ?_) ?_
          · go_simp
            refine (four_any n _ hn).mono ?_
            rintro e w_13_1_2_14_4 ⟨rfl, hB4⟩
            have hB := hB.trans (hB4.mono hB.size)
            refine hK _ _ ?_
            clear hK K hB4
            refine wpAny_take (i := 5) (v := ?_) rfl (by kernel_rfl) (by kernel_rfl) (by kernel_rfl) (fun _ _ _ h => h) (Or.inl ⟨by rfl, ?_⟩) ?_
            rotate_left
            · intro w
              go_simp; with_reducible rfl
            refine wpAny_take (i := 15) (v := ?_) rfl (by kernel_rfl) (by kernel_rfl) (by kernel_rfl) (fun _ _ _ h => h) (Or.inl ⟨by rfl, ?_⟩) ?_
            rotate_left
            · intro w
              go_simp; with_reducible rfl
            refine wpAny_take (i := 17) (v := ?_) rfl (by kernel_rfl) (by kernel_rfl) (by kernel_rfl) (fun _ _ _ h => h) (Or.inl ⟨by rfl, ?_⟩) ?_
            rotate_left
            · intro w
              go_simp; with_reducible rfl
            refine wpAny_take (i := 18) (v := ?_) rfl (by kernel_rfl) (by kernel_rfl) (by kernel_rfl) (fun _ _ _ h => h) (Or.inl ⟨by rfl, ?_⟩) ?_
            rotate_left
            · intro w
              go_simp; with_reducible rfl
            refine wpAny_done (by kernel_rfl) ?_ _
            go_wp2_with fail
            go_ret
            exact Ret.of FIN.symm hB
          exact AllReady.nil
        exact AllReady.nil
      refine AllReady.cons rfl (fun K hK => ?_) ?_
      · go_simp
        refine (four_any n _ hn).mono ?_
        rintro e w_13_1_4 ⟨rfl, hB4⟩
        have h8 := (hB4.block _ (lt_of_heap h8)).trans h8
        have h20 := (hB4.block _ (lt_of_heap h20)).trans h20
        have hB := hB.trans (hB4.mono hB.size)
        refine hK _ _ ?_
        clear hK K hB4
        refine wpAny_ready (rs := [2, 14]) (by kernel_rfl) (by simp) ?_
        refine AllReady.cons rfl (fun K hK => ?_) ?_
        · go_simp
          rw [conv_oneW kind hk _ _ h8]
          go_simp
          refine hK _ _ ?_
          clear hK K
          refine wpAny_take (i := 5) (v := ?_) rfl (by kernel_rfl) (by kernel_rfl) (by kernel_rfl) (fun _ _ _ h => h) (Or.inl ⟨by rfl, ?_⟩) ?_
          rotate_left
          · intro w
            go_simp; with_reducible rfl
          refine wpAny_ready (rs := [14]) (by kernel_rfl) (by simp) ?_
          refine AllReady.cons rfl (fun K hK => ?_) ?_
          · go_simp
            rw [conv_twoW (s.size : Int) 0 s.size 0 rfl rfl (by omega) (by omega) _ _ h20]
            go_simp
            refine hK _ _ ?_
            clear hK K
            refine wpAny_take (i := 15) (v := ?_) rfl (by kernel_rfl) (by kernel_rfl) (by kernel_rfl) (fun _ _ _ h => h) (Or.inl ⟨by rfl, ?_⟩) ?_
            rotate_left
            · intro w
              go_simp; with_reducible rfl
            refine wpAny_take (i := 17) (v := ?_) rfl (by kernel_rfl) (by kernel_rfl) (by kernel_rfl) (fun _ _ _ h => h) (Or.inl ⟨by rfl, ?_⟩) ?_
            rotate_left
            · intro w
              go_simp; with_reducible rfl
            refine wpAny_take (i := 18) (v := ?_) rfl (by kernel_rfl) (by kernel_rfl) (by kernel_rfl) (fun _ _ _ h => h) (Or.inl ⟨by rfl, ?_⟩) ?_
            rotate_left
            · intro w
              go_simp; with_reducible rfl
            refine wpAny_done (by kernel_rfl) ?_ _
            go_wp2_with fail
            go_ret
            exact Ret.of FIN.symm hB
          exact AllReady.nil
        refine AllReady.cons rfl (fun K hK => ?_) ?_
        · go_simp
          rw [conv_twoW (s.size : Int) 0 s.size 0 rfl rfl (by omega) (by omega) _ _ h20]
          go_simp
          refine hK _ _ ?_
          clear hK K
          refine wpAny_ready (rs := [2]) (by kernel_rfl) (by simp) ?_
          refine AllReady.cons rfl (fun K hK => ?_) ?_
          · go_simp
            rw [conv_oneW kind hk _ _ h8]
            go_simp
            refine hK _ _ ?_
            clear hK K
            refine wpAny_take (i := 5) (v := ?_) rfl (by kernel_rfl) (by kernel_rfl) (by kernel_rfl) (fun _ _ _ h => h) (Or.inl ⟨by rfl, ?_⟩) ?_
            rotate_left
            · intro w
              go_simp; with_reducible rfl
            refine wpAny_take (i := 15) (v := ?_) rfl (by kernel_rfl) (by kernel_rfl) (by kernel_rfl) (fun _ _ _ h => h) (Or.inl ⟨by rfl, ?_⟩) ?_
            rotate_left
            · intro w
              go_simp; with_reducible rfl
            refine wpAny_take (i := 17) (v := ?_) rfl (by kernel_rfl) (by kernel_rfl) (by kernel_rfl) (fun _ _ _ h => h) (Or.inl ⟨by rfl, ?_⟩) ?_
            rotate_left
            · intro w
              go_simp; with_reducible rfl
            refine wpAny_take (i := 18) (v := ?_) rfl (by kernel_rfl) (by kernel_rfl) (by kernel_rfl) (fun _ _ _ h => h) (Or.inl ⟨by rfl, ?_⟩) ?_
            rotate_left
            · intro w
              go_simp; with_reducible rfl
            refine wpAny_done (by kernel_rfl) ?_ _
            go_wp2_with fail
            go_ret
            exact Ret.of FIN.symm hB
          exact AllReady.nil
        exact AllReady.nil
      refine AllReady.cons rfl (fun K hK => ?_) ?_
      · go_simp
        rw [conv_twoW (s.size : Int) 0 s.size 0 rfl rfl (by omega) (by omega) _ _ h20]
        go_simp
        refine hK _ _ ?_
        clear hK K
        refine wpAny_ready (rs := [2, 4]) (by kernel_rfl) (by simp) ?_
        refine AllReady.cons rfl (fun K hK => ?_) ?_
        · go_simp
          rw [conv_oneW kind hk _ _ h8]
          go_simp
          refine hK _ _ ?_
          clear hK K
          refine wpAny_ready (rs := [4]) (by kernel_rfl) (by simp) ?_
          refine AllReady.cons rfl (fun K hK => ?_) ?_
          · go_simp
            refine (four_any n _ hn).mono ?_
            rintro e w_13_1_14_2_4 ⟨rfl, hB4⟩
            have hB := hB.trans (hB4.mono hB.size)
            refine hK _ _ ?_
            clear hK K hB4
            refine wpAny_take (i := 5) (v := ?_) rfl (by kernel_rfl) (by kernel_rfl) (by kernel_rfl) (fun _ _ _ h => h) (Or.inl ⟨by rfl, ?_⟩) ?_
            rotate_left
            · intro w
              go_simp; with_reducible rfl
            refine wpAny_take (i := 15) (v := ?_) rfl (by kernel_rfl) (by kernel_rfl) (by kernel_rfl) (fun _ _ _ h => h) (Or.inl ⟨by rfl, ?_⟩) ?_
            rotate_left
            · intro w
              go_simp; with_reducible rfl
            refine wpAny_take (i := 17) (v := ?_) rfl (by kernel_rfl) (by kernel_rfl) (by kernel_rfl) (fun _ _ _ h => h) (Or.inl ⟨by rfl, ?_⟩) ?_
            rotate_left
            · intro w
              go_simp; with_reducible rfl
            refine wpAny_take (i := 18) (v := ?_) rfl (by kernel_rfl) (by kernel_rfl) (by kernel_rfl) (fun _ _ _ h => h) (Or.inl ⟨by rfl, ?_⟩) ?_
            rotate_left
            · intro w
              go_simp; with_reducible rfl
            refine wpAny_done (by kernel_rfl) ?_ _
            go_wp2_with fail
            go_ret
            exact Ret.of FIN.symm hB
          exact AllReady.nil
        refine AllReady.cons rfl (fun K hK => ?_) ?_
        · go_simp
          refine (four_any n _ hn).mono ?_
          rintro e w_13_1_14_4 ⟨rfl, hB4⟩
          have h8 := (hB4.block _ (lt_of_heap h8)).trans h8
          have hB := hB.trans (hB4.mono hB.size)
          refine hK _ _ ?_
          clear hK K hB4
          refine wpAny_ready (rs := [2]) (by kernel_rfl) (by simp) ?_
          refine AllReady.cons rfl (fun K hK => ?_) ?_
          · go_simp
            rw [conv_oneW kind hk _ _ h8]
            go_simp
            refine hK _ _ ?_
            clear hK K
            refine wpAny_take (i := 5) (v := ?_) rfl (by kernel_rfl) (by kernel_rfl) (by kernel_rfl) (fun _ _ _ h => h) (Or.inl ⟨by rfl, ?_⟩) ?_
            rotate_left
            · intro w
              go_simp; with_reducible rfl
            refine wpAny_take (i := 15) (v := ?_) rfl (by kernel_rfl) (by kernel_rfl) (by kernel_rfl) (fun _ _ _ h => h) (Or.inl ⟨by rfl, ?_⟩) ?_
            rotate_left
            · intro w
              go_simp; with_reducible rfl
            refine wpAny_take (i := 17) (v := ?_) rfl (by kernel_rfl) (by kernel_rfl) (by kernel_rfl) (fun _ _ _ h => h) (Or.inl ⟨by rfl, ?_⟩) ?_
            rotate_left
            · intro w
              go_simp; with_reducible rfl
            refine wpAny_take (i := 18) (v := ?_) rfl (by kernel_rfl) (by kernel_rfl) (by kernel_rfl) (fun _ _ _ h => h) (Or.inl ⟨by rfl, ?_⟩) ?_
            rotate_left
            · intro w
              go_simp; with_reducible rfl
            refine wpAny_done (by kernel_rfl) ?_ _
            go_wp2_with fail
            go_ret
            exact Ret.of FIN.symm hB
          exact AllReady.nil
        exact AllReady.nil
      exact AllReady.nil
    refine AllReady.cons rfl (fun K hK => ?_) ?_
    · go_simp
      refine (four_any n _ hn).mono ?_
      rintro e w_13_4 ⟨rfl, hB4⟩
      have h20 := (hB4.block _ (lt_of_heap h20)).trans h20
      have hB := hB.trans (hB4.mono hB.size)
      refine hK _ _ ?_
      clear hK K hB4
      refine wpAny_ready (rs := [1, 14]) (by kernel_rfl) (by simp) ?_
      refine AllReady.cons rfl (fun K hK => ?_) ?_
      · go_simp
        refine hK _ _ ?_
        clear hK K
        have hB := hB.alloc hB.size (.cells #[.int .u8 (kind : Int)] 5)
        have h20 := (heap_alloc_old w_13_4 (.cells #[.int .u8 (kind : Int)] 5) (lt_of_heap h20)).trans h20
        have h8 := heap_alloc_new w_13_4 (.cells #[.int .u8 (kind : Int)] 5)
        generalize w_13_4.alloc (.cells #[.int .u8 (kind : Int)] 5) = w_13_4_1 at h8 hB h20 ⊢
        generalize w_13_4.heap.size = b8 at h8 ⊢
        refine wpAny_ready (rs := [2, 14]) (by kernel_rfl) (by simp) ?_
        refine AllReady.cons rfl (fun K hK => ?_) ?_
        · go_simp
          rw [conv_oneW kind hk _ _ h8]
          go_simp
          refine hK _ _ ?_
          clear hK K
          refine wpAny_take (i := 5) (v := ?_) rfl (by kernel_rfl) (by kernel_rfl) (by kernel_rfl) (fun _ _ _ h => h) (Or.inl ⟨by rfl, ?_⟩) ?_
          rotate_left
          · intro w
            go_simp; with_reducible rfl
          refine wpAny_ready (rs := [14]) (by kernel_rfl) (by simp) ?_
          refine AllReady.cons rfl (fun K hK => ?_) ?_
          · go_simp
            rw [conv_twoW (s.size : Int) 0 s.size 0 rfl rfl (by omega) (by omega) _ _ h20]
            go_simp
            refine hK _ _ ?_
            clear hK K
            refine wpAny_take (i := 15) (v := ?_) rfl (by kernel_rfl) (by kernel_rfl) (by kernel_rfl) (fun _ _ _ h => h) (Or.inl ⟨by rfl, ?_⟩) ?_
            rotate_left
            · intro w
              go_simp; with_reducible rfl
            refine wpAny_take (i := 17) (v := ?_) rfl (by kernel_rfl) (by kernel_rfl) (by kernel_rfl) (fun _ _ _ h => h) (Or.inl ⟨by rfl, ?_⟩) ?_
            rotate_left
            · intro w
              go_simp; with_reducible rfl
            refine wpAny_take (i := 18) (v := ?_) rfl (by kernel_rfl) (by kernel_rfl) (by kernel_rfl) (fun _ _ _ h => h) (Or.inl ⟨by rfl, ?_⟩) ?_
            rotate_left
            · intro w
              go_simp; with_reducible rfl
            refine wpAny_done (by kernel_rfl) ?_ _
            go_wp2_with fail
            go_ret
            exact Ret.of FIN.symm hB
          exact AllReady.nil
        refine AllReady.cons rfl (fun K hK => ?_) ?_
        · go_simp
          rw [conv_twoW (s.size : Int) 0 s.size 0 rfl rfl (by omega) (by omega) _ _ h20]
          go_simp
          refine hK _ _ ?_
          clear hK K
          refine wpAny_ready (rs := [2]) (by kernel_rfl) (by simp) ?_
          refine AllReady.cons rfl (fun K hK => ?_) ?_
          · go_simp
            rw [conv_oneW kind hk _ _ h8]
            go_simp
            refine hK _ _ ?_
            clear hK K
            refine wpAny_take (i := 5) (v := ?_) rfl (by kernel_rfl) (by kernel_rfl) (by kernel_rfl) (fun _ _ _ h => h) (Or.inl ⟨by rfl, ?_⟩) ?_
            rotate_left
            · intro w
              go_simp; with_reducible rfl
            refine wpAny_take (i := 15) (v := ?_) rfl (by kernel_rfl) (by kernel_rfl) (by kernel_rfl) (fun _ _ _ h => h) (Or.inl ⟨by rfl, ?_⟩) ?_
            rotate_left
            · intro w
              go_simp; with_reducible rfl
            refine wpAny_take (i := 17) (v := ?_) rfl (by kernel_rfl) (by kernel_rfl) (by kernel_rfl) (fun _ _ _ h => h) (Or.inl ⟨by rfl, ?_⟩) ?_
            rotate_left
            · intro w
              go_simp; with_reducible rfl
            refine wpAny_take (i := 18) (v := ?_) rfl (by kernel_rfl) (by kernel_rfl) (by kernel_rfl) (fun _ _ _ h => h) (Or.inl ⟨by rfl, ?_⟩) ?_
            rotate_left
            · intro w
              go_simp; with_reducible rfl
            refine wpAny_done (by kernel_rfl) ?_ _
            go_wp2_with fail
            go_ret
            exact Ret.of FIN.symm hB
          exact AllReady.nil
        exact AllReady.nil
      refine AllReady.cons rfl (fun K hK => ?_) ?_
      · go_simp
        rw [conv_twoW (s.size : Int) 0 s.size 0 rfl rfl (by omega) (by omega) _ _ h20]
        go_simp
        refine hK _ _ ?_
        clear hK K
        refine wpAny_ready (rs := [1]) (by kernel_rfl) (by simp) ?_
        refine AllReady.cons rfl (fun K hK => ?_) ?_
        · go_simp
          refine hK _ _ ?_
          clear hK K
          have hB := hB.alloc hB.size (.cells #[.int .u8 (kind : Int)] 5)
          have h8 := heap_alloc_new w_13_4 (.cells #[.int .u8 (kind : Int)] 5)
          generalize w_13_4.alloc (.cells #[.int .u8 (kind : Int)] 5) = w_13_4_14_1 at h8 hB ⊢
          generalize w_13_4.heap.size = b8 at h8 ⊢
          refine wpAny_ready (rs := [2]) (by kernel_rfl) (by simp) ?_
          refine AllReady.cons rfl (fun K hK => ?_) ?_
          · go_simp
            rw [conv_oneW kind hk _ _ h8]
            go_simp
            refine hK _ _ ?_
            clear hK K
            refine wpAny_take (i := 5) (v := ?_) rfl (by kernel_rfl) (by kernel_rfl) (by kernel_rfl) (fun _ _ _ h => h) (Or.inl ⟨by rfl, ?_⟩) ?_
            rotate_left
            · intro w
              go_simp; with_reducible rfl
            refine wpAny_take (i := 15) (v := ?_) rfl (by kernel_rfl) (by kernel_rfl) (by kernel_rfl) (fun _ _ _ h => h) (Or.inl ⟨by rfl, ?_⟩) ?_
            rotate_left
            · intro w
              go_simp; with_reducible rfl
            refine wpAny_take (i := 17) (v := ?_) rfl (by kernel_rfl) (by kernel_rfl) (by kernel_rfl) (fun _ _ _ h => h) (Or.inl ⟨by rfl, ?_⟩) ?_
            rotate_left
            · intro w
              go_simp; with_reducible rfl
            refine wpAny_take (i := 18) (v := ?_) rfl (by kernel_rfl) (by kernel_rfl) (by kernel_rfl) (fun _ _ _ h => h) (Or.inl ⟨by rfl, ?_⟩) ?_
            rotate_left
            · intro w
              go_simp; with_reducible rfl
            refine wpAny_done (by kernel_rfl) ?_ _
            go_wp2_with fail
            go_ret
            exact Ret.of FIN.symm hB
          exact AllReady.nil
        exact AllReady.nil
      exact AllReady.nil
    refine AllReady.cons rfl (fun K hK => ?_) ?_
    · go_simp
      rw [conv_twoW (s.size : Int) 0 s.size 0 rfl rfl (by omega) (by omega) _ _ h20]
      go_simp
      refine hK _ _ ?_
      clear hK K
      refine wpAny_ready (rs := [1, 4]) (by kernel_rfl) (by simp) ?_
      refine AllReady.cons rfl (fun K hK => ?_) ?_
      · go_simp
        refine hK _ _ ?_
        clear hK K
        have hB := hB.alloc hB.size (.cells #[.int .u8 (kind : Int)] 5)
        have h8 := heap_alloc_new w_13 (.cells #[.int .u8 (kind : Int)] 5)
        generalize w_13.alloc (.cells #[.int .u8 (kind : Int)] 5) = w_13_14_1 at h8 hB ⊢
        generalize w_13.heap.size = b8 at h8 ⊢
        refine wpAny_ready (rs := [2, 4]) (by kernel_rfl) (by simp) ?_
        refine AllReady.cons rfl (fun K hK => ?_) ?_
        · go_simp
          rw [conv_oneW kind hk _ _ h8]
          go_simp
          refine hK _ _ ?_
          clear hK K
          refine wpAny_ready (rs := [4]) (by kernel_rfl) (by simp) ?_
          refine AllReady.cons rfl (fun K hK => ?_) ?_
          · go_simp
            refine (four_any n _ hn).mono ?_
            rintro e w_13_14_1_2_4 ⟨rfl, hB4⟩
            have hB := hB.trans (hB4.mono hB.size)
            refine hK _ _ ?_
            clear hK K hB4
            refine wpAny_take (i := 5) (v := ?_) rfl (by kernel_rfl) (by kernel_rfl) (by kernel_rfl) (fun _ _ _ h => h) (Or.inl ⟨by rfl, ?_⟩) ?_
            rotate_left
            · intro w
              go_simp; with_reducible rfl
            refine wpAny_take (i := 15) (v := ?_) rfl (by kernel_rfl) (by kernel_rfl) (by kernel_rfl) (fun _ _ _ h => h) (Or.inl ⟨by rfl, ?_⟩) ?_
            rotate_left
            · intro w
              go_simp; with_reducible rfl
            refine wpAny_take (i := 17) (v := ?_) rfl (by kernel_rfl) (by kernel_rfl) (by kernel_rfl) (fun _ _ _ h => h) (Or.inl ⟨by rfl, ?_⟩) ?_
            rotate_left
            · intro w
              go_simp; with_reducible rfl
            refine wpAny_take (i := 18) (v := ?_) rfl (by kernel_rfl) (by kernel_rfl) (by kernel_rfl) (fun _ _ _ h => h) (Or.inl ⟨by rfl, ?_⟩) ?_
            rotate_left
            · intro w
              go_simp; with_reducible rfl
            refine wpAny_done (by kernel_rfl) ?_ _
            go_wp2_with fail
            go_ret
            exact Ret.of FIN.symm hB
          exact AllReady.nil
        refine AllReady.cons rfl (fun K hK => ?_) ?_
        · go_simp
          refine (four_any n _ hn).mono ?_
          rintro e w_13_14_1_4 ⟨rfl, hB4⟩
          have h8 := (hB4.block _ (lt_of_heap h8)).trans h8
          have hB := hB.trans (hB4.mono hB.size)
          refine hK _ _ ?_
          clear hK K hB4
          refine wpAny_ready (rs := [2]) (by kernel_rfl) (by simp) ?_
          refine AllReady.cons rfl (fun K hK => ?_) ?_
          · go_simp
            rw [conv_oneW kind hk _ _ h8]
            go_simp
            refine hK _ _ ?_
            clear hK K
            refine wpAny_take (i := 5) (v := ?_) rfl (by kernel_rfl) (by kernel_rfl) (by kernel_rfl) (fun _ _ _ h => h) (Or.inl ⟨by rfl, ?_⟩) ?_
            rotate_left
            · intro w
              go_simp; with_reducible rfl
            refine wpAny_take (i := 15) (v := ?_) rfl (by kernel_rfl) (by kernel_rfl) (by kernel_rfl) (fun _ _ _ h => h) (Or.inl ⟨by rfl, ?_⟩) ?_
            rotate_left
            · intro w
              go_simp; with_reducible rfl
            refine wpAny_take (i := 17) (v := ?_) rfl (by kernel_rfl) (by kernel_rfl) (by kernel_rfl) (fun _ _ _ h => h) (Or.inl ⟨by rfl, ?_⟩) ?_
            rotate_left
            · intro w
              go_simp; with_reducible rfl
            refine wpAny_take (i := 18) (v := ?_) rfl (by kernel_rfl) (by kernel_rfl) (by kernel_rfl) (fun _ _ _ h => h) (Or.inl ⟨by rfl, ?_⟩) ?_
            rotate_left
            · intro w
              go_simp; with_reducible rfl
            refine wpAny_done (by kernel_rfl) ?_ _
            go_wp2_with fail
            go_ret
            exact Ret.of FIN.symm hB
          exact AllReady.nil
        exact AllReady.nil
      refine AllReady.cons rfl (fun K hK => ?_) ?_
      · go_simp
        refine (four_any n _ hn).mono ?_
        rintro e w_13_14_4 ⟨rfl, hB4⟩
        have hB := hB.trans (hB4.mono hB.size)
        refine hK _ _ ?_
        clear hK K hB4
        refine wpAny_ready (rs := [1]) (by kernel_rfl) (by simp) ?_
        refine AllReady.cons rfl (fun K hK => ?_) ?_
        · go_simp
          refine hK _ _ ?_
          clear hK K
          have hB := hB.alloc hB.size (.cells #[.int .u8 (kind : Int)] 5)
          have h8 := heap_alloc_new w_13_14_4 (.cells #[.int .u8 (kind : Int)] 5)
          generalize w_13_14_4.alloc (.cells #[.int .u8 (kind : Int)] 5) = w_13_14_4_1 at h8 hB ⊢
          generalize w_13_14_4.heap.size = b8 at h8 ⊢
          refine wpAny_ready (rs := [2]) (by kernel_rfl) (by simp) ?_
          refine AllReady.cons rfl (fun K hK => ?_) ?_
          · go_simp
            rw [conv_oneW kind hk _ _ h8]
            go_simp
            refine hK _ _ ?_
            clear hK K
            refine wpAny_take (i := 5) (v := ?_) rfl (by kernel_rfl) (by kernel_rfl) (by kernel_rfl) (fun _ _ _ h => h) (Or.inl ⟨by rfl, ?_⟩) ?_
            rotate_left
            · intro w
              go_simp; with_reducible rfl
            refine wpAny_take (i := 15) (v := ?_) rfl (by kernel_rfl) (by kernel_rfl) (by kernel_rfl) (fun _ _ _ h => h) (Or.inl ⟨by rfl, ?_⟩) ?_
            rotate_left
            · intro w
              go_simp; with_reducible rfl
            refine wpAny_take (i := 17) (v := ?_) rfl (by kernel_rfl) (by kernel_rfl) (by kernel_rfl) (fun _ _ _ h => h) (Or.inl ⟨by rfl, ?_⟩) ?_
            rotate_left
            · intro w
              go_simp; with_reducible rfl
            refine wpAny_take (i := 18) (v := ?_) rfl (by kernel_rfl) (by kernel_rfl) (by kernel_rfl) (fun _ _ _ h => h) (Or.inl ⟨by rfl, ?_⟩) ?_
            rotate_left
            · intro w
              go_simp; with_reducible rfl
            refine wpAny_done (by kernel_rfl) ?_ _
            go_wp2_with fail
            go_ret
            exact Ret.of FIN.symm hB
          exact AllReady.nil
        exact AllReady.nil
      exact AllReady.nil
    exact AllReady.nil
  exact AllReady.nil

end Go.Proofs.Ytkapmpngglibjaa
