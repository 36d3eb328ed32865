/- Laws on slices of elements of any number of cells, in a block that is known whole: copy, clear, append within the room, append of noughts. No condition beyond each law's own. -/
import Derived.Test.YtkapmpngglibjaaBase
import Derived.Lib.AppendZerosOnto
import Derived.Lib.Overlaps
import Derived.Laws.Externs
import Derived.Shelf.RegionOpenPlain
namespace Go.Proofs.Ytkapmpngglibjaa
open Go Go.RowKit

/-- cs laid over l from place off on. -/
def lay (l : List Value) (off : Nat) (cs : List Value) : List Value := l.take off ++ (cs ++ l.drop (off + cs.length))

theorem lay_length (l : List Value) (off : Nat) (cs : List Value) (h : off + cs.length ≤ l.length) : (lay l off cs).length = l.length := by
  simp only [lay, List.length_append, List.length_take, List.length_drop]
  omega

theorem lay_nil (l : List Value) (off : Nat) : lay l off [] = l := by simp [lay]

theorem run_copyK {P : Program} (w : World) (dT sT ty elem : TypeId) (s : Nat) (g o dLen dCap : Nat) (a : Addr) (sLen sCap : Nat) (cur : List Value) (t : TypeId) (cs : List Value)
    (hu : P.underlying dT = some (.slice elem)) (hs : (P.info? elem).map (·.size) = some s)
    (hg : w.heap[g]? = some (.cells cur.toArray t (0, 0))) (hn : cs.length = Nat.min sLen dLen * s)
    (hsrc : ∀ j v, cs[j]? = some v → w.cell? (a.add j) = some v) (hfit : o + cs.length ≤ cur.length) (h1 : ∀ v ∈ cs, v.oneCell' = true) :
    (Builtin.copy_ #[dT, sT] ty #[.slice (some ⟨g, o, none⟩) dLen dCap, .slice (some a) sLen sCap]).run P w = .ok (goInt (Nat.min sLen dLen)) (w.setRow g (lay cur o cs).toArray) := by
  have hl := run_loadCells_list (P := P) w a cs hsrc
  have hst := run_storeCells_at P g o t cs 0 cur.toArray w hg (by simpa using hfit) h1
  cases hq : P.info? elem with
  | none => simp [hq] at hs
  | some i =>
    have hi : i.size = s := by simpa [hq] using hs
    simp [Builtin.copy_, run_underlying hu, Builtin.lenOf, Builtin.firstCells, sizeOf, typeInfo, hq, hi, ← hn, hl, hst, lay]

theorem run_copyK_none {P : Program} (w : World) (dT sT ty elem : TypeId) (s : Nat) (d a : Option Addr) (dLen dCap sLen sCap : Nat) (hu : P.underlying dT = some (.slice elem)) (hs : (P.info? elem).map (·.size) = some s) (hn : Nat.min sLen dLen = 0) :
    (Builtin.copy_ #[dT, sT] ty #[.slice d dLen dCap, .slice a sLen sCap]).run P w = .ok (goInt 0) w := by
  cases hq : P.info? elem with
  | none => simp [hq] at hs
  | some i =>
    have hl : ∀ (x : Addr), (loadCells x 0).run P w = .ok #[] w := fun x => by simpa using run_loadCells_list (P := P) w x [] (by simp)
    cases d <;> cases a <;> simp [Builtin.copy_, run_underlying hu, Builtin.lenOf, Builtin.firstCells, sizeOf, typeInfo, hq, hn, storeCells, hl]

theorem frame_setRow (w : World) (g : Nat) (cs : Array Value) : Frame [g] w (w.setRow g cs) :=
  ⟨rfl, rfl, rfl, by simp, fun k _ hk => setRow_other w g k _ (by simpa using hk)⟩

/-- copy, wherever its two sides lie: what goes over is cs. -/
theorem wpList_copyK {P : Program} {w : World} {ops : Array Oper} {rest : List Oper} {o : Oper} {a : Act} {Q : Exit → Act → World → Prop} (hgd : o.guard = none) (d s : Operand) (dT sT : TypeId)
    (ho : o.op = .call { callee := .builtin .copy, args := #[d, s], argTypes := #[dT, sT] }) (elem : TypeId) (sz : Nat) (hu : P.underlying dT = some (.slice elem)) (hsz : (P.info? elem).map (·.size) = some sz)
    (dp sp : Option Addr) (dLen dCap sLen sCap : Nat) (hd : a.eval d = .slice dp dLen dCap) (hs : a.eval s = .slice sp sLen sCap)
    (g off : Nat) (cur : List Value) (t : TypeId) (hg : w.heap[g]? = some (.cells cur.toArray t (0, 0))) (n : Nat) (hnn : Nat.min sLen dLen = n) (cs : List Value) (hn : cs.length = n * sz)
    (hpos : 0 < n → dp = some ⟨g, off, none⟩ ∧ ∃ ad, sp = some ad ∧ ∀ j v, cs[j]? = some v → w.cell? (ad.add j) = some v)
    (hfit : off + cs.length ≤ cur.length) (h1 : ∀ v ∈ cs, v.oneCell' = true)
    (h : ∀ w', w'.heap[g]? = some (.cells (lay cur off cs).toArray t (0, 0)) → Frame [g] w w' → w'.heap.size = w.heap.size → wpList P ops Q rest (a.put o.dst (goInt n)) w') :
    wpList P ops Q (o :: rest) a w := by
  refine wpList_plain hgd fun K hK => ?_
  by_cases h00 : n = 0
  · subst h00
    obtain rfl : cs = [] := List.eq_nil_of_length_eq_zero (by simpa using hn)
    have hrun := run_copyK_none (P := P) w dT sT o.type elem sz dp sp dLen dCap sLen sCap hu hsz hnn
    unfold Oper.wp
    simp [execOp, ho, resolve, invoke, builtin, hd, hs, hrun, Result.andThen]
    exact hK _ _ (h w (by rw [lay_nil]; exact hg) (Frame.refl _ _) rfl)
  · obtain ⟨rfl, ad, rfl, hsrc⟩ := hpos (by omega)
    have hrun := run_copyK (P := P) w dT sT o.type elem sz g off dLen dCap ad sLen sCap cur t cs hu hsz hg (by rw [hnn]; exact hn) hsrc hfit h1
    rw [hnn] at hrun
    unfold Oper.wp
    simp [execOp, ho, resolve, invoke, builtin, hd, hs, hrun, Result.andThen]
    exact hK _ _ (h _ (setRow_heap w g _ _ t _ hg) (frame_setRow w g _) (by simp))

theorem run_clearK {P : Program} (w : World) (t e ty : TypeId) (z : Value) (ht : P.underlying t = some (.slice e)) (hv : ∀ w, (zeroValue e).run P w = .ok z w) (g off n c : Nat) (cur : List Value) (te : TypeId)
    (hg : w.heap[g]? = some (.cells cur.toArray te (0, 0))) (hn : 0 < n) (zs : List Value) (hz : (Builtin.zeroCells z.cells n).toList = zs) (hfit : off + zs.length ≤ cur.length) (h1 : ∀ v ∈ zs, v.oneCell' = true) :
    (Builtin.clear_ #[t] ty #[.slice (some ⟨g, off, none⟩) n c]).run P w = .ok (.tuple #[]) (w.setRow g (lay cur off zs).toArray) := by
  have hst := run_storeCells_at P g off te zs 0 cur.toArray w hg (by simpa using hfit) h1
  obtain ⟨m, rfl⟩ : ∃ m, n = m + 1 := ⟨n - 1, by omega⟩
  simp [Builtin.clear_, run_underlying ht, hv, hz, hst, lay]

theorem run_clear_empty {P : Program} (w : World) (t e ty : TypeId) (ht : P.underlying t = some (.slice e)) (d : Option Addr) (c : Nat) :
    (Builtin.clear_ #[t] ty #[.slice d 0 c]).run P w = .ok (.tuple #[]) w := by
  cases d <;> simp [Builtin.clear_, run_underlying ht]

/-- clear of n elements at a place of a block that is known whole. -/
theorem wpList_clearK {P : Program} {w : World} {ops : Array Oper} {rest : List Oper} {o : Oper} {a : Act} {Q : Exit → Act → World → Prop} (hgd : o.guard = none) (s : Operand) (t : TypeId)
    (ho : o.op = .call { callee := .builtin .clear, args := #[s], argTypes := #[t] }) (e : TypeId) (z : Value) (ht : P.underlying t = some (.slice e)) (hv : ∀ w, (zeroValue e).run P w = .ok z w)
    (dp : Option Addr) (n c : Nat) (hs : a.eval s = .slice dp n c) (g off : Nat) (cur : List Value) (te : TypeId) (hg : w.heap[g]? = some (.cells cur.toArray te (0, 0)))
    (zs : List Value) (hz : (Builtin.zeroCells z.cells n).toList = zs) (hdp : 0 < n → dp = some ⟨g, off, none⟩) (hfit : off + zs.length ≤ cur.length) (h1 : ∀ v ∈ zs, v.oneCell' = true)
    (h : ∀ w', w'.heap[g]? = some (.cells (lay cur off zs).toArray te (0, 0)) → Frame [g] w w' → w'.heap.size = w.heap.size → wpList P ops Q rest (a.put o.dst (.tuple #[])) w') :
    wpList P ops Q (o :: rest) a w := by
  refine wpList_plain hgd fun K hK => ?_
  by_cases h00 : n = 0
  · subst h00
    obtain rfl : zs = [] := by rw [← hz]; simp [Builtin.zeroCells]
    have hrun := run_clear_empty (P := P) w t e o.type ht dp c
    unfold Oper.wp
    simp [execOp, ho, resolve, invoke, builtin, hs, hrun, Result.andThen]
    exact hK _ _ (h w (by rw [lay_nil]; exact hg) (Frame.refl _ _) rfl)
  · obtain rfl := hdp (by omega)
    have hrun := run_clearK (P := P) w t e o.type z ht hv g off n c cur te hg (by omega) zs hz hfit h1
    unfold Oper.wp
    simp [execOp, ho, resolve, invoke, builtin, hs, hrun, Result.andThen]
    exact hK _ _ (h _ (setRow_heap w g _ _ te _ hg) (frame_setRow w g _) (by simp))

theorem run_append_roomK {P : Program} (w : World) (t ty e : TypeId) (sz : Nat) (ht : P.underlying t = some (.slice e)) (hs : (P.info? e).map (·.size) = some sz)
    (g sLen sCap : Nat) (cur : List Value) (te : TypeId) (hg : w.heap[g]? = some (.cells cur.toArray te (0, 0))) (a : Addr) (m c : Nat) (cs : List Value) (hl : cs.length = m * sz)
    (hsrc : ∀ j u, cs[j]? = some u → w.cell? (a.add j) = some u) (h1 : ∀ u ∈ cs, u.oneCell' = true) (hroom : sLen + m ≤ sCap) (hfit : sLen * sz + cs.length ≤ cur.length) :
    (Builtin.append_ #[t, t] ty #[.slice (some ⟨g, 0, none⟩) sLen sCap, .slice (some a) m c]).run P w = .ok (.slice (some ⟨g, 0, none⟩) (sLen + m) sCap) (w.setRow g (lay cur (sLen * sz) cs).toArray) := by
  cases hq : P.info? e with
  | none => simp [hq] at hs
  | some i =>
    have hi : i.size = sz := by simpa [hq] using hs
    have hf := run_firstCells_some (P := P) w i.size m a m c cs (by rw [hi]; exact hl) hsrc
    have hst := run_storeCells_at P g (sLen * sz) te cs 0 cur.toArray w hg (by simpa using hfit) h1
    simp only [Nat.add_zero] at hst
    rw [hi] at hf
    simp [Builtin.append_, run_underlying ht, sizeOf, typeInfo, hq, hi, Builtin.lenOf, hroom, hf, Addr.add_lit, hst, lay]

theorem run_append_roomK_none {P : Program} (w : World) (t ty e : TypeId) (sz : Nat) (ht : P.underlying t = some (.slice e)) (hs : (P.info? e).map (·.size) = some sz)
    (d x : Option Addr) (sLen sCap c : Nat) (hroom : sLen ≤ sCap) :
    (Builtin.append_ #[t, t] ty #[.slice d sLen sCap, .slice x 0 c]).run P w = .ok (.slice d sLen sCap) w := by
  cases hq : P.info? e with
  | none => simp [hq] at hs
  | some i =>
    have hl : ∀ (x : Addr), (loadCells x 0).run P w = .ok #[] w := fun x => by simpa using run_loadCells_list (P := P) w x [] (by simp)
    cases d <;> cases x <;> simp [Builtin.append_, run_underlying ht, sizeOf, typeInfo, hq, Builtin.lenOf, hroom, Builtin.firstCells, storeCells, hl]

/-- append within the room, to the head of a block that is known whole: what is appended is cs, wherever it lies. -/
theorem wpList_append_roomK {P : Program} {w : World} {ops : Array Oper} {rest : List Oper} {o : Oper} {a : Act} {Q : Exit → Act → World → Prop} (hgd : o.guard = none) (s x : Operand) (t : TypeId)
    (ho : o.op = .call { callee := .builtin .append, args := #[s, x], argTypes := #[t, t] }) (e : TypeId) (sz : Nat) (ht : P.underlying t = some (.slice e)) (hsz : (P.info? e).map (·.size) = some sz)
    (g sLen sCap : Nat) (hs : a.eval s = .slice (some ⟨g, 0, none⟩) sLen sCap) (sp : Option Addr) (m c : Nat) (hx : a.eval x = .slice sp m c)
    (cur : List Value) (te : TypeId) (hg : w.heap[g]? = some (.cells cur.toArray te (0, 0))) (cs : List Value) (hl : cs.length = m * sz)
    (hsrc : 0 < m → ∃ ad, sp = some ad ∧ ∀ j u, cs[j]? = some u → w.cell? (ad.add j) = some u) (h1 : ∀ u ∈ cs, u.oneCell' = true) (N : Nat) (hN : sLen + m = N) (hroom : N ≤ sCap) (hfit : sLen * sz + cs.length ≤ cur.length)
    (h : ∀ w', w'.heap[g]? = some (.cells (lay cur (sLen * sz) cs).toArray te (0, 0)) → Frame [g] w w' → w'.heap.size = w.heap.size → wpList P ops Q rest (a.put o.dst (.slice (some ⟨g, 0, none⟩) N sCap)) w') :
    wpList P ops Q (o :: rest) a w := by
  subst hN
  refine wpList_plain hgd fun K hK => ?_
  by_cases h00 : m = 0
  · subst h00
    obtain rfl : cs = [] := List.eq_nil_of_length_eq_zero (by simpa using hl)
    have hrun := run_append_roomK_none (P := P) w t o.type e sz ht hsz (some ⟨g, 0, none⟩) sp sLen sCap c (by omega)
    unfold Oper.wp
    simp [execOp, ho, resolve, invoke, builtin, hs, hx, hrun, Result.andThen]
    exact hK _ _ (h w (by rw [lay_nil]; exact hg) (Frame.refl _ _) rfl)
  · obtain ⟨ad, rfl, hsrc'⟩ := hsrc (by omega)
    have hrun := run_append_roomK (P := P) w t o.type e sz ht hsz g sLen sCap cur te hg ad m c cs hl hsrc' h1 hroom hfit
    unfold Oper.wp
    simp [execOp, ho, resolve, invoke, builtin, hs, hx, hrun, Result.andThen]
    exact hK _ _ (h _ (setRow_heap w g _ _ te _ hg) (frame_setRow w g _) (by simp))

/-- append of k noughts ('make') where there is no room: a new block. -/
theorem wpList_append_zerosK {P : Program} {w : World} {ops : Array Oper} {rest : List Oper} {o : Oper} {a : Act} {Q : Exit → Act → World → Prop} (hgd : o.guard = none) (s x : Operand) (t tn : TypeId)
    (ho : o.op = .call { callee := .builtin .append, args := #[s, x], argTypes := #[t, tn] }) (e : TypeId) (i : TypeInfo) (z : Value) (sz bytes : Nat) (kq kn : IntKind) (ht : P.underlying t = some (.slice e)) (htn : P.underlying tn = some (.int kn))
    (hi : P.info? e = some i) (hz : i.zero = some z) (hsize : i.size = sz) (hby : i.bytes = bytes) (hzs : z.cells.size = sz) (h0 : 0 < sz)
    (ad : Addr) (sLen sCap k : Nat) (hs : a.eval s = .slice (some ad) sLen sCap) (hx : a.eval x = .int kq (k : Int)) (olds : List Value) (hlo : olds.length = sLen * sz) (hold : ∀ j u, olds[j]? = some u → w.cell? (ad.add j) = some u)
    (hk : 0 < k) (N : Nat) (hN : sLen + k = N) (hfull : sCap < N) (h63 : N ≤ maxLen) (hbytes : N * bytes ≤ 140737488355328)
    (h : ∀ cap tail w', N ≤ cap → cap ≤ maxLen → tail.length + olds.length = cap * sz → w'.heap[w.heap.size]? = some (.cells (olds ++ tail).toArray e (0, 0)) → Frame [] w w' → w'.heap.size = w.heap.size + 1 →
      wpList P ops Q rest (a.put o.dst (.slice (some ⟨w.heap.size, 0, none⟩) N cap)) w') :
    wpList P ops Q (o :: rest) a w := by
  subst hN
  subst hsize
  subst hby
  refine wpList_plain hgd fun K hK => ?_
  have hf := run_firstCells_some (P := P) w.drew i.size sLen ad sLen sCap olds hlo hold
  have hlt : (sLen + k) * i.bytes = sLen * i.bytes + k * i.bytes := Nat.add_mul ..
  have hrun := Lib.run_append_grow_zeros (P := P) w t tn o.type e i z kq kn ht htn hi hz (some ad) sLen sCap olds hf k hk (by omega) hfull (by unfold maxLen at h63; omega) (by omega) (growslice_fits hfull hbytes)
  have hge := grownCap_ge w (sLen + k) sCap e
  have hcm : grownCap w (sLen + k) sCap e ≤ maxLen := grownCap_le_maxLen w (sLen + k) sCap e h63
  unfold Oper.wp
  simp [execOp, ho, resolve, invoke, builtin, hs, hx, hrun, Result.andThen]
  refine hK _ _ (h _ ((Builtin.zeroCells z.cells k).toList ++ (Builtin.zeroCells z.cells (grownCap w (sLen + k) sCap e - (sLen + k))).toList) _ hge hcm ?_ ?_ ?_ ?_)
  · simp only [List.length_append, Array.length_toList, size_zeroCells, hzs, hlo, ← Nat.add_mul]
    congr 1
    omega
  · have := heap_alloc_new w.drew (.cells (olds.toArray ++ (Builtin.zeroCells z.cells k ++ Builtin.zeroCells z.cells (grownCap w (sLen + k) sCap e - (sLen + k)))) e)
    rw [heap_drew] at this
    rw [this]
    congr 2
    apply Array.ext'
    simp
  · exact ((Frame.refl [] w).drew).alloc _
  · rw [size_alloc, heap_drew]

/-- append to an owned slice of whatever slice, an empty one or nil too. -/
theorem wpList_append_any {P : Program} {w : World} {ops : Array Oper} {rest : List Oper} {o : Oper} {a : Act} {Q : Exit → Act → World → Prop} (hgd : o.guard = none) (s x : Operand) (t : TypeId)
    (ho : o.op = .call { callee := .builtin .append, args := #[s, x], argTypes := #[t, t] }) (base : Nat) (e : TypeId) (i : TypeInfo) (z : Value) (size bytes : Nat) (ht : P.underlying t = some (.slice e))
    (hi : P.info? e = some i) (hz : i.zero = some z) (hsize : i.size = size) (hby : i.bytes = bytes) (hzs : z.cells.size = size) (hsz : 0 < size)
    (v : Value) (n : Nat) (xs : List Value) (hs : a.eval s = v) (hown : w.ownsRow base e size v n xs) (sp : Option Addr) (m c : Nat) (news : List Value) (hx : a.eval x = .slice sp m c) (hl : news.length = m * size)
    (hnews : 0 < m → ∃ ad, sp = some ad ∧ ∀ j u, news[j]? = some u → w.cell? (ad.add j) = some u) (h1 : ∀ u ∈ news, u.oneCell' = true)
    (N : Nat) (hN : n + m = N) (h63 : N ≤ maxLen) (hbytes : N * bytes ≤ 140737488355328) (hbase : base ≤ w.heap.size)
    (h : ∀ v' w', w'.ownsRow base e size v' N (xs ++ news) → w.grownBy w' v.ownBlock → (v'.ownBlock = v.ownBlock ∨ v'.ownBlock = some w.heap.size) → wpList P ops Q rest (a.put o.dst v') w') :
    wpList P ops Q (o :: rest) a w := by
  subst hN
  refine wpList_plain hgd fun K hK => ?_
  by_cases h00 : m = 0
  · subst h00
    obtain rfl : news = [] := List.eq_nil_of_length_eq_zero (by simpa using hl)
    have hform : ∃ d cap, v = .slice d n cap ∧ n ≤ cap := by
      rcases hown.2 with ⟨h1, h2⟩ | ⟨g, cap, cur, h1, -, -, h2, -⟩
      · exact ⟨none, 0, by rw [h1, h2], by omega⟩
      · exact ⟨_, _, h1, h2⟩
    obtain ⟨d, cap, rfl, hle⟩ := hform
    have hrun := run_append_roomK_none (P := P) w t o.type e size ht (by rw [hi]; simp [hsize]) d sp n cap c hle
    unfold Oper.wp
    simp [execOp, ho, resolve, invoke, builtin, hs, hx, hrun, Result.andThen]
    exact hK _ _ (h _ w (by simpa using hown) (World.grownBy.refl _ _) (.inl rfl))
  · obtain ⟨ad, rfl, hc⟩ := hnews (by omega)
    obtain ⟨v', w', hr, h2, h3, _, h5⟩ := run_append_own_at (P := P) w base t o.type e i z size bytes ht hi hz hsize hby hzs hsz v n xs hown ad m c news hl hc h1 h63 hbytes hbase
    unfold Oper.wp
    simp [execOp, ho, resolve, invoke, builtin, hs, hx, hr, Result.andThen]
    exact hK _ _ (h v' w' h2 h3 h5)

/-! ### what lies where -/

theorem lay_take (l : List Value) (off : Nat) (cs : List Value) (n : Nat) (h : off + cs.length ≤ l.length) (hn : n ≤ off) : (lay l off cs).take n = l.take n := by
  rw [lay, List.take_append_of_le_length (by rw [List.length_take]; omega), List.take_take, Nat.min_eq_left hn]

/-- Behind what stays: what is laid, and what lies behind it. -/
theorem lay_take_end (l : List Value) (off : Nat) (cs : List Value) (h : off + cs.length ≤ l.length) : (lay l off cs).take (off + cs.length) = l.take off ++ cs := by
  have e : (l.take off ++ cs).length = off + cs.length := by rw [List.length_append, List.length_take, Nat.min_eq_left (by omega)]
  rw [lay, ← List.append_assoc, ← e, List.take_left']
  rfl

theorem getElem_of_take {l : List Value} {n : Nat} {xs : List Value} (h : l.take n = xs) (j : Nat) (v : Value) (hv : xs[j]? = some v) : l[j]? = some v := by
  rw [← h, List.getElem?_take] at hv
  split at hv
  · exact hv
  · cases hv

/-- An owned row that isn't empty, or isn't nil, written out. -/
theorem owns_block {w : World} {base : Nat} {e : TypeId} {size : Nat} {g n cap : Nat} {xs : List Value} (h : w.ownsRow base e size (.slice (some ⟨g, 0, none⟩) n cap) n xs) :
    ∃ cur : List Value, w.heap[g]? = some (.cells cur.toArray e (0, 0)) ∧ n ≤ cap ∧ cap ≤ maxLen ∧ cur.length = cap * size ∧ cur.take (n * size) = xs ∧ xs.length = n * size ∧ base ≤ g := by
  rcases h.2 with ⟨h0, _⟩ | ⟨g', cap', cur, hv, hb, hg, h1, h2, h3, h4⟩
  · cases h0
  · cases hv
    exact ⟨cur.toList, by simpa using hg, h1, h2, by simpa using h3, h4, h.1, hb⟩

theorem owns_of_block {w : World} {base : Nat} {e : TypeId} {size : Nat} {g n cap : Nat} {cur xs : List Value} (hg : w.heap[g]? = some (.cells cur.toArray e (0, 0))) (h1 : n ≤ cap) (h2 : cap ≤ maxLen) (h3 : cur.length = cap * size)
    (h4 : cur.take (n * size) = xs) (hb : base ≤ g) : w.ownsRow base e size (.slice (some ⟨g, 0, none⟩) n cap) n xs := by
  have : n * size ≤ cap * size := Nat.mul_le_mul_right _ h1
  refine ⟨by rw [← h4, List.length_take]; omega, .inr ⟨g, cap, cur.toArray, rfl, hb, hg, h1, h2, by simpa using h3, by simpa using h4⟩⟩

theorem zeroCells_one (z : Array Value) : (Builtin.zeroCells z 1).toList = z.toList := by
  apply List.ext_getElem
  · simp [Builtin.zeroCells]
  · intro i h1 h2
    have h3 : i < z.size := by simpa using h2
    simp [Builtin.zeroCells, Nat.mod_eq_of_lt h3, getElem!_pos z i h3]

theorem shape_of {w : World} {b : Nat} {c : Array Value} {e : TypeId} {f : Nat × Nat} (h : w.heap[b]? = some (.cells c e f)) : w.shape? b = some (e, c.size) := by simp [World.shape?, h]

end Go.Proofs.Ytkapmpngglibjaa
