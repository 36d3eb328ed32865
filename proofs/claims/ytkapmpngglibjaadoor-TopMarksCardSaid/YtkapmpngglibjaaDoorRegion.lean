/- A region whose order is drawn is carried out by a plan: operations that only read are taken first, the others come in the one order that is left. Conditions: those of 'wp_region_plan' below. -/
import Derived.StillTail
import Derived.StillTactics
import Derived.WalkKit
namespace Go.Proofs.YtkapmpngglibjaaDoor
open Go

section
variable {P : Program} {ops : Array Oper} {Q : Exit → Act → World → Prop} {md : Region.Mode} {T : World → Prop} {kp : Nat → Bool}

/-- In each world of the class T the operation leaves v, and does nothing else. -/
def YieldsT (P : Program) (ops : Array Oper) (T : World → Prop) (o : Oper) (v : Value) (a : Act) : Prop :=
  ∀ w, T w → YieldsAt P ops w o v a

theorem YieldsT.of_same {o : Oper} {v : Value} {a a' : Act} (hy : YieldsT P ops T o v a) (he : execOp a'.eval o = execOp a.eval o)
    (hw : Region.wanted o (yielded ops a'.tmps) = Region.wanted o (yielded ops a.tmps)) : YieldsT P ops T o v a' :=
  fun w hT => (hy w hT).of_same he hw

theorem YieldsT.wpOp {i : Nat} {o : Oper} {v : Value} {a : Act} (hi : ops[i]? = some o) (hy : YieldsT P ops T o v a)
    {K : Act → World → Prop} {w : World} (hT : T w) (h : K (a.put o.dst v) w) : wpOp P ops Q i K a w :=
  wpOp_of_stOp (K := fun a' => a' = a.put o.dst v) (fun a' e => by subst e; exact h) ((hy w hT).stOp hi rfl)

theorem wpOp_putT {j : Nat} {oi oj : Oper} {v : Value} (hj : ops[j]? = some oj) (hap : oi.apart ops oj = true)
    (hsi : ∀ cs b, oi.op ≠ .select cs b) (hsj : ∀ cs b, oj.op ≠ .select cs b)
    (hQ : ∀ c a d v w, Q (.panic c) (a.put d v) w → Q (.panic c) a w) {K : Act → World → Prop} {a : Act} {w : World}
    (hy : YieldsT P ops T oi v a) (h : wpOp P ops Q j K (a.put oi.dst v) w) :
    wpOp P ops Q j (fun a' w' => YieldsT P ops T oi v a' ∧ K (a'.put oi.dst v) w') a w := by
  obtain ⟨h1, h2, h3⟩ := Oper.apart_spec hap
  have keep : ∀ (a : Act), YieldsT P ops T oi v a → ∀ u, YieldsT P ops T oi v (a.put oj.dst u) := fun a hy u =>
    hy.of_same (execOp_put oi hsi a oj.dst u h3) (wanted_put oi a oj.dst u h3)
  have keepD : ∀ d, YieldsT P ops T oi v { a with defers := d :: a.defers } := fun d => hy.of_same rfl rfl
  unfold wpOp at *
  simp only [hj] at *
  rw [wanted_put oj a oi.dst v h1] at h
  split
  · rename_i hw
    simp only [hw, if_true] at h
    rcases h with h | ⟨hasks, hlets⟩
    case inr => exact .inr ⟨by unfold Oper.asks at *; rw [execOp_put oj hsj a oi.dst v h1] at hasks; exact hasks, hlets⟩
    refine .inl ?_
    unfold Oper.wp at *
    rw [execOp_put oj hsj a oi.dst v h1] at h
    generalize (execOp a.eval oj).run P w = r at *
    cases r with
    | ok n w' =>
      cases n <;> simp only [Oper.upon] at h ⊢
      case value u => exact ⟨keep a hy u, by rw [← Act.put_comm a v u h2]; exact h⟩
      case skip => exact ⟨keep a hy _, by rw [← Act.put_comm a v undef h2]; exact h⟩
      case defer d =>
        refine ⟨keep _ (keepD d) _, ?_⟩
        rw [← Act.put_comm _ v undef h2, ← Act.put_defers]
        exact h
      case enter f args =>
        refine Calls.mono h fun e w'' he => ?_
        cases e with
        | returned u => exact ⟨keep a hy u, by rw [← Act.put_comm a v u h2]; exact he⟩
        | panicked c => exact hQ _ _ _ _ _ he
        | outgrown => exact he
      case row row args => exact Rows.mono h fun u w'' he => ⟨keep a hy u, by rw [← Act.put_comm a v u h2]; exact he⟩
    | halt x w' =>
      cases x <;> simp only [Oper.upon] at h ⊢
      case panic u => exact hQ _ _ _ _ _ h
  · rename_i hw
    simp only [hw] at h
    exact ⟨keep a hy _, by rw [← Act.put_comm a v undef h2]; exact h⟩

/-- Whatever order is picked from here on; behind each operation that keeps, the world is of the class T. -/
def wpAnyT (P : Program) (md : Region.Mode) (ops : Array Oper) (Q : Exit → Act → World → Prop) (T : World → Prop) (kp : Nat → Bool) : Nat → Array Bool → Act → World → Prop
  | 0, listed, a, w => Region.ready md ops listed = [] ∧ Q .normal a w
  | fuel + 1, listed, a, w =>
    (Region.ready md ops listed = [] → Q .normal a w) ∧
    ∀ i ∈ Region.ready md ops listed, wpOp P ops Q i (fun a' w' => (kp i = true → T w') ∧ wpAnyT P md ops Q T kp fuel (listed.setIfInBounds i true) a' w') a w

theorem wpAny_of_T : ∀ (fuel : Nat) (listed : Array Bool) (a : Act) (w : World), wpAnyT P md ops Q T kp fuel listed a w → wpAny P md ops Q fuel listed a w
  | 0, _, _, _, h => h
  | fuel + 1, _, _, _, h => ⟨h.1, fun i hi => wpOp_mono (fun a' w' h' => wpAny_of_T fuel _ a' w' h'.2) (h.2 i hi)⟩

theorem wpAnyT_first {i : Nat} {oi : Oper} {v : Value} (hi : ops[i]? = some oi) (hsel : ∀ (j : Nat) (o : Oper) cs b, ops[j]? = some o → o.op ≠ .select cs b)
    (hQ : ∀ c a d v w, Q (.panic c) (a.put d v) w → Q (.panic c) a w) :
    ∀ (fuel : Nat) (listed : Array Bool) (a : Act) (w : World), HeadInv md ops ops.size listed →
      (∀ j oj, ops[j]? = some oj → j ≠ i → listed.getD j true = false → (∀ e ∈ oj.after, Region.binds md e = true → e.on ≠ i) → oi.apart ops oj = true) →
      (∀ j, kp j = false → listed.getD j true = false → ∀ listed', HeadInv md ops ops.size listed' → listed'.getD i false = false → j ∉ Region.ready md ops listed') →
      i ∈ Region.ready md ops listed → YieldsT P ops T oi v a → T w →
      wpAnyT P md ops Q T kp fuel (listed.setIfInBounds i true) (a.put oi.dst v) w → wpAnyT P md ops Q T kp (fuel + 1) listed a w := by
  intro fuel
  induction fuel with
  | zero =>
    intro listed a w _ _ _ hr hy hS H
    refine ⟨fun h => (by rw [h] at hr; cases hr), fun j hj => ?_⟩
    by_cases hji : j = i
    · subst hji; exact hy.wpOp hi hS ⟨fun _ => hS, H⟩
    · have := ready_mono hj hji
      rw [H.1] at this
      cases this
  | succ fuel ih =>
    intro listed a w inv hfree hkp hr hy hS H
    refine ⟨fun h => (by rw [h] at hr; cases hr), fun j hj => ?_⟩
    by_cases hji : j = i
    · subst hji; exact hy.wpOp hi hS ⟨fun _ => hS, H⟩
    · have h1 := H.2 j (ready_mono hj hji)
      obtain ⟨hjun, oj, hoj, hall⟩ := mem_ready.1 hj
      have hiun := getD_both (mem_ready.1 hr).1
      have hkj : kp j = true := by
        cases hk : kp j with
        | true => rfl
        | false => exact absurd hj (hkp j hk hjun listed inv hiun)
      have hnot : ∀ e ∈ oj.after, Region.binds md e = true → e.on ≠ i := fun e he hb heq => by
        have h1 := hall e he hb
        rw [heq, hiun] at h1
        cases h1
      have h2 := wpOp_putT hoj (hfree j oj hoj hji hjun hnot) (fun cs b => hsel i oi cs b hi) (fun cs b => hsel j oj cs b hoj) hQ hy h1
      have hfree' : ∀ k ok, ops[k]? = some ok → k ≠ i → (listed.setIfInBounds j true).getD k true = false →
          (∀ e ∈ ok.after, Region.binds md e = true → e.on ≠ i) → oi.apart ops ok = true := fun k ok hk hki hun hno => by
        refine hfree k ok hk hki ?_ hno
        by_cases hjk : j = k
        · subst hjk; exact hjun
        · rw [getD_set_ne true hjk] at hun; exact hun
      have hkp' : ∀ k, kp k = false → (listed.setIfInBounds j true).getD k true = false → ∀ listed', HeadInv md ops ops.size listed' → listed'.getD i false = false → k ∉ Region.ready md ops listed' := fun k hk hun => by
        refine hkp k hk ?_
        by_cases hjk : j = k
        · subst hjk; exact hjun
        · rw [getD_set_ne true hjk] at hun; exact hun
      have hjlt : j < ops.size := (Array.getElem?_eq_some_iff.1 hoj).1
      refine wpOp_mono (fun a' w' h3 => ⟨h3.2.1, ih (listed.setIfInBounds j true) a' w' (inv.set hj hjlt) hfree' hkp' (ready_mono hr (Ne.symm hji)) h3.1 (h3.2.1 hkj) ?_⟩) h2
      rw [Array.setIfInBounds_comm _ _ hji]
      exact h3.2.2

/-! ### Which operations wait for which: a mask of bits for each -/

def maskStep (md : Region.Mode) (acc : List Nat) (o : Oper) : Nat :=
  o.after.toList.foldl (fun s e => if Region.binds md e then s ||| 2 ^ e.on ||| acc.getD e.on 0 else s) 0

def masks (md : Region.Mode) : List Oper → List Nat → List Nat
  | [], acc => acc
  | o :: l, acc => masks md l (acc ++ [maskStep md acc o])

/-- Operation j can't come up while i has not. -/
def Waits (md : Region.Mode) (ops : Array Oper) (j i : Nat) : Prop :=
  ∀ listed : Array Bool, HeadInv md ops ops.size listed → (∀ oj, ops[j]? = some oj → ∀ e ∈ oj.after, Region.binds md e = true → listed.getD e.on false = true) → ops[j]?.isSome = true → listed.getD i false = true

theorem mask_fold {acc : List Nat} (hacc : ∀ k, k < acc.length → ∀ i, (acc.getD k 0).testBit i = true → Waits md ops k i) {j : Nat} (i : Nat) :
    ∀ (l : List Edge) (s : Nat), (s.testBit i = true → Waits md ops j i) → (∀ e ∈ l, ∃ oj, ops[j]? = some oj ∧ e ∈ oj.after) →
      (l.foldl (fun s e => if Region.binds md e then s ||| 2 ^ e.on ||| acc.getD e.on 0 else s) s).testBit i = true → Waits md ops j i
  | [], s, hs, _, h => hs h
  | e :: l, s, hs, hl, h => by
    simp only [List.foldl_cons] at h
    refine mask_fold hacc i l _ ?_ (fun e' he' => hl e' (List.mem_cons_of_mem _ he')) h
    intro hb
    split at hb
    case isFalse => exact hs hb
    rename_i hbind
    obtain ⟨oj, hoj, hej⟩ := hl e (List.mem_cons_self ..)
    rw [Nat.testBit_or, Nat.testBit_or, Bool.or_eq_true, Bool.or_eq_true] at hb
    rcases hb with (hb | hb) | hb
    · exact hs hb
    · rw [Nat.testBit_two_pow] at hb
      have hb' : e.on = i := by simpa using hb
      subst hb'
      exact fun listed _ hall _ => hall oj hoj e hej hbind
    · intro listed inv hall _
      have hlt : e.on < acc.length := by
        rcases Nat.lt_or_ge e.on acc.length with h | h
        · exact h
        · have e0 : acc.getD e.on 0 = 0 := by simp [List.getD, List.getElem?_eq_none h]
          rw [e0, Nat.zero_testBit] at hb; cases hb
      have hon := hall oj hoj e hej hbind
      cases hk : ops[e.on]? with
      | none =>
        have hge : ops.size ≤ e.on := Array.getElem?_eq_none_iff.1 hk
        rw [← inv.size] at hge
        simp [Array.getElem?_eq_none hge] at hon
      | some ok =>
        exact hacc e.on hlt i hb listed inv (fun o' ho' e' he' hb' => inv.closed e.on o' ho' hon e' he' hb') (by simp [hk])

theorem masks_spec : ∀ (l : List Oper) (acc : List Nat), (∀ j, l[j]? = ops[acc.length + j]?) →
    (∀ k, k < acc.length → ∀ i, (acc.getD k 0).testBit i = true → Waits md ops k i) → ∀ k i, ((masks md l acc).getD k 0).testBit i = true → Waits md ops k i
  | [], acc, _, hacc, k, i, h => by
    rcases Nat.lt_or_ge k acc.length with hk | hk
    · exact hacc k hk i h
    · have e0 : acc.getD k 0 = 0 := by simp [List.getD, List.getElem?_eq_none hk]
      simp only [masks] at h
      rw [e0, Nat.zero_testBit] at h; cases h
  | o :: l, acc, hl, hacc, k, i, h => by
    simp only [masks] at h
    have h0 : ops[acc.length]? = some o := by simpa using (hl 0).symm
    refine masks_spec l (acc ++ [maskStep md acc o]) (fun j => by have := hl (j + 1); simpa [Nat.add_assoc, Nat.add_comm 1 j] using this) ?_ k i h
    intro k hk i hb
    rcases Nat.lt_or_ge k acc.length with hk' | hk'
    · rw [List.getD_eq_getElem?_getD, List.getElem?_append_left hk', ← List.getD_eq_getElem?_getD] at hb
      exact hacc k hk' i hb
    · have hke : k = acc.length := by simp at hk; omega
      subst hke
      have e1 : (acc ++ [maskStep md acc o]).getD acc.length 0 = maskStep md acc o := by simp [List.getD]
      rw [e1] at hb
      exact mask_fold hacc i o.after.toList 0 (fun h => by rw [Nat.zero_testBit] at h; cases h) (fun e he => ⟨o, h0, by simpa using he⟩) hb

/-! ### The plan -/

/-- A stage: operations that are taken first, then those that come in order; true: the class T is kept (one operation at most). -/
abbrev Stage := List Nat × List Nat × Bool

def Stage.loose (s : Stage) (j : Nat) : Bool := s.2.1.contains j && !s.2.2
def keeps (plan : List Stage) (j : Nat) : Bool := plan.all fun s => !s.loose j

def okFirst (md : Region.Mode) (ops : Array Oper) (ms : List Nat) (kp : Nat → Bool) : List Nat → Array Bool → (Array Bool → Bool) → Bool
  | [], listed, k => k listed
  | i :: l, listed, k => (Region.ready md ops listed).contains i && Region.free md ops listed i &&
      ((List.range ops.size).all fun j => kp j || listed.getD j true || (ms.getD j 0).testBit i) && okFirst md ops ms kp l (listed.setIfInBounds i true) k

def okSeq (md : Region.Mode) (ops : Array Oper) : List Nat → Array Bool → (Array Bool → Bool) → Bool
  | [], listed, k => k listed
  | i :: l, listed, k => decide (Region.ready md ops listed = [i]) && okSeq md ops l (listed.setIfInBounds i true) k

def okStages (md : Region.Mode) (ops : Array Oper) (ms : List Nat) (kp : Nat → Bool) : List Stage → Array Bool → Bool
  | [], listed => (Region.ready md ops listed).isEmpty
  | s :: l, listed => (s.2.1.length ≤ 1 || !s.2.2) && okFirst md ops ms kp s.1 listed fun listed => okSeq md ops s.2.1 listed fun listed => okStages md ops ms kp l listed

/-- The operations of these numbers. -/
def picked (l : List Oper) (is : List Nat) : List Oper := is.filterMap fun i => l[i]?

/-- What is taken first writes a slot of its own, below n. -/
def ownSlots (n : Nat) : List Oper → Bool
  | [] => true
  | o :: l => (match o.dst with | some d => decide (d < n) && l.all (fun p => p.dst != some d) | none => false) && ownSlots n l

def okPlan (md : Region.Mode) (l : List Oper) (n : Nat) (plan : List Stage) : Bool :=
  Region.noSelect l.toArray && decide ((plan.map fun s => s.1.length + s.2.1.length).sum ≤ l.length) && plan.all (fun s => ownSlots n (picked l s.1)) &&
    okStages md l.toArray (masks md l []) (keeps plan) plan (Array.replicate l.length false)

/-- The way out is the normal one. -/
def OnlyNormal (N : Act → World → Prop) : Exit → Act → World → Prop
  | .normal, a, w => N a w
  | _, _, _ => False
theorem OnlyNormal.mk {N : Act → World → Prop} {a : Act} {w : World} (h : N a w) : OnlyNormal N .normal a w := h

/-- The plan carried out: what is taken first comes to one state in every world of the class. -/
def wpStages (P : Program) (l : List Oper) (N : Act → World → Prop) (T : World → Prop) (n : Nat) : List Stage → Act → World → Prop
  | [], a, w => N a w
  | s :: rest, a, w => ∃ a', ((s.1 = [] ∧ a' = a) ∨ (T w ∧ n ≤ a.tmps.size ∧ ∀ w1, T w1 → wpStill P l.toArray w1 (fun a2 => a2 = a') (picked l s.1) a)) ∧
      wpList P l.toArray (OnlyNormal fun a2 w2 => (s.2.2 = true → T w2) ∧ wpStages P l N T n rest a2 w2) (picked l s.2.1) a' w

/-! ### That it suffices -/

theorem stOp_of_still {i : Nat} {o : Oper} {w : World} {K : Act → Prop} {rest : List Oper} {a : Act} (hi : ops[i]? = some o) (h : wpStill P ops w K (o :: rest) a) :
    ∃ v, YieldsAt P ops w o v a ∧ wpStill P ops w K rest (a.put o.dst v) := by
  refine yieldsAt_of_stOp hi ?_
  unfold stOp
  simp only [hi]
  exact h

theorem Act.put_get (a : Act) {d : Tmp} {x : Option Tmp} (v : Value) (h : x ≠ some d) : (a.put x v).tmps[d]? = a.tmps[d]? := by
  cases x with
  | none => rfl
  | some e =>
    have hne : e ≠ d := fun h' => h (by rw [h'])
    simp [Act.put, Array.getElem?_setIfInBounds_ne hne]

theorem still_keeps {w : World} {d : Tmp} {a' : Act} : ∀ (l : List Oper), (∀ o ∈ l, ∃ i : Nat, ops[i]? = some o) → ∀ (a : Act), (∀ p ∈ l, p.dst ≠ some d) → wpStill P ops w (fun a2 => a2 = a') l a → a'.tmps[d]? = a.tmps[d]?
  | [], _, a, _, h => by rw [← (show a = a' from h)]
  | o :: l, hi, a, hd, h => by
    obtain ⟨i, ho⟩ := hi o (List.mem_cons_self ..)
    obtain ⟨v, _, h2⟩ := stOp_of_still ho h
    rw [still_keeps l (fun o ho => hi o (List.mem_cons_of_mem _ ho)) _ (fun p hp => hd p (List.mem_cons_of_mem _ hp)) h2]
    exact Act.put_get a v (hd o (List.mem_cons_self ..))

theorem ownSlots_cons {n : Nat} {o : Oper} {l : List Oper} (h : ownSlots n (o :: l) = true) : ∃ d, o.dst = some d ∧ d < n ∧ (∀ p ∈ l, p.dst ≠ some d) ∧ ownSlots n l = true := by
  simp only [ownSlots] at h
  rw [Bool.and_eq_true] at h
  obtain ⟨h1, h2⟩ := h
  split at h1
  · rename_i d hd
    simp only [Bool.and_eq_true, decide_eq_true_eq, List.all_eq_true, bne_iff_ne, ne_eq] at h1
    exact ⟨d, hd, h1.1, h1.2, h2⟩
  · cases h1

theorem Act.put_size (a : Act) (x : Option Tmp) (v : Value) : (a.put x v).tmps.size = a.tmps.size := by
  cases x <;> simp [Act.put]

theorem yieldsT_of_still {i n : Nat} {o : Oper} {rest : List Oper} {a a' : Act} {w : World} (hi : ops[i]? = some o) (hall : ∀ o ∈ rest, ∃ i : Nat, ops[i]? = some o)
    (hs : ownSlots n (o :: rest) = true) (hn : n ≤ a.tmps.size) (hT : T w) (h : ∀ w1, T w1 → wpStill P ops w1 (fun a2 => a2 = a') (o :: rest) a) :
    ∃ v, YieldsT P ops T o v a ∧ ∀ w1, T w1 → wpStill P ops w1 (fun a2 => a2 = a') rest (a.put o.dst v) := by
  obtain ⟨d, hd, hlt, hnot, _⟩ := ownSlots_cons hs
  have get : ∀ (v : Value), (a.put o.dst v).tmps[d]? = some v := fun v => by
    rw [hd]
    simp [Act.put, Nat.lt_of_lt_of_le hlt hn]
  obtain ⟨v, hv, h2⟩ := stOp_of_still hi (h w hT)
  have e1 := still_keeps rest hall _ hnot h2
  have key : ∀ w1, T w1 → YieldsAt P ops w1 o v a ∧ wpStill P ops w1 (fun a2 => a2 = a') rest (a.put o.dst v) := fun w1 hT1 => by
    obtain ⟨v1, hv1, h3⟩ := stOp_of_still hi (h w1 hT1)
    have e2 := still_keeps rest hall _ hnot h3
    rw [e1, get, get] at e2
    cases e2
    exact ⟨hv1, h3⟩
  exact ⟨v, fun w1 h1 => (key w1 h1).1, fun w1 h1 => (key w1 h1).2⟩

theorem wpAnyT_done {listed : Array Bool} {a : Act} {w : World} (hr : Region.ready md ops listed = []) (h : Q .normal a w) :
    ∀ fuel, wpAnyT P md ops Q T kp fuel listed a w
  | 0 => ⟨hr, h⟩
  | _ + 1 => ⟨fun _ => h, by rw [hr]; simp⟩

theorem wpOp_weaken {Q' : Exit → Act → World → Prop} {i : Nat} {K : Act → World → Prop} {a : Act} {w : World}
    (hp : ∀ c a w, Q' (.panic c) a w → Q (.panic c) a w) (ho : ∀ a w, Q' .outgrown a w → Q .outgrown a w) (h : wpOp P ops Q' i K a w) : wpOp P ops Q i K a w := by
  have hL : LetsOut Q' → LetsOut Q := fun ⟨a, w, h⟩ => ⟨a, w, ho _ _ h⟩
  unfold wpOp at *
  split
  · rename_i h0; simpa only [h0] using h
  · rename_i o h0
    simp only [h0] at h
    split
    · rename_i hw
      simp only [hw, if_true] at h
      rcases h with h | ⟨h1, h2⟩
      · refine .inl ?_
        unfold Oper.wp at *
        generalize (execOp a.eval o).run P w = r at *
        cases r with
        | ok n w' =>
          cases n <;> simp only [Oper.upon] at h ⊢ <;> first
            | exact h
            | exact Calls.mono h (fun e w'' he => by cases e <;> first | exact he | exact hp _ _ _ he | exact hL he)
        | halt x w' => cases x <;> simp only [Oper.upon] at h ⊢ <;> first | exact h | exact hp _ _ _ h
      · exact .inr ⟨h1, hL h2⟩
    · rename_i hw; simp only [hw] at h; exact h

section
variable {l : List Oper} {ms : List Nat} (hms : ∀ k i, (ms.getD k 0).testBit i = true → Waits md l.toArray k i) (hsel : Region.noSelect l.toArray = true)
  (hQ : ∀ c a d v w, Q (.panic c) (a.put d v) w → Q (.panic c) a w)
include hms hsel hQ

theorem first_sound {n fuel : Nat} {k : Array Bool → Bool} {a' : Act} {w : World} (hT : T w) (hk : ∀ listed', HeadInv md l.toArray l.toArray.size listed' → k listed' = true → wpAnyT P md l.toArray Q T kp fuel listed' a' w) :
    ∀ (is : List Nat) (listed : Array Bool) (a : Act), HeadInv md l.toArray l.toArray.size listed → okFirst md l.toArray ms kp is listed k = true → ownSlots n (picked l is) = true → n ≤ a.tmps.size →
      (∀ w1, T w1 → wpStill P l.toArray w1 (fun a2 => a2 = a') (picked l is) a) → wpAnyT P md l.toArray Q T kp (is.length + fuel) listed a w
  | [], listed, a, inv, hB, _, _, h => by
    have e : a = a' := h w hT
    subst e
    simpa using hk listed inv (by simpa [okFirst] using hB)
  | i :: is, listed, a, inv, hB, hs, hn, h => by
    simp only [okFirst, Bool.and_eq_true] at hB
    obtain ⟨⟨⟨hr, hf⟩, hw⟩, hB'⟩ := hB
    have hr' : i ∈ Region.ready md l.toArray listed := by simpa using hr
    obtain ⟨_, oi, hoi, _⟩ := mem_ready.1 hr'
    have hoi' : l[i]? = some oi := by simpa using hoi
    have hlt : i < l.toArray.size := (Array.getElem?_eq_some_iff.1 hoi).1
    have hpk : picked l (i :: is) = oi :: picked l is := by simp [picked, hoi']
    rw [hpk] at hs h
    have hall : ∀ o ∈ picked l is, ∃ i : Nat, l.toArray[i]? = some o := fun o ho => by
      obtain ⟨j, _, hj⟩ := List.mem_filterMap.1 ho
      exact ⟨j, by rw [List.getElem?_toArray]; exact hj⟩
    obtain ⟨v, hy, h2⟩ := yieldsT_of_still hoi hall hs hn hT h
    have hs' := (ownSlots_cons hs).choose_spec.2.2.2
    have hrec := first_sound hT hk is (listed.setIfInBounds i true) (a.put oi.dst v) (inv.set hr' hlt) hB' hs' (by rw [Act.put_size]; exact hn) h2
    have e : (i :: is).length + fuel = (is.length + fuel) + 1 := by simp; omega
    rw [e]
    refine wpAnyT_first hoi (Region.noSelect_spec hsel) hQ (is.length + fuel) listed a w inv (Region.free_spec hoi hf) ?_ hr' hy hT hrec
    intro j hj hun listed' inv' hi' hjr
    obtain ⟨_, oj, hoj, hall'⟩ := mem_ready.1 hjr
    have hjlt : j < l.toArray.size := (Array.getElem?_eq_some_iff.1 hoj).1
    have h3 := List.all_eq_true.1 hw j (List.mem_range.2 hjlt)
    simp only [hj, hun, Bool.false_or] at h3
    have := hms j i h3 listed' inv' (fun o' ho' e he hb => by
      have : o' = oj := Option.some.inj (ho'.symm.trans hoj)
      subst this
      exact hall' e he hb) (by simp [hoj])
    rw [this] at hi'
    cases hi'

omit hms hsel hQ in
theorem seq_sound {fuel : Nat} {k : Array Bool → Bool} {keep : Bool} {K : Act → World → Prop} (hk : ∀ listed' a' w', HeadInv md l.toArray l.toArray.size listed' → k listed' = true → (keep = true → T w') → K a' w' → wpAnyT P md l.toArray Q T kp fuel listed' a' w') :
    ∀ (is : List Nat) (listed : Array Bool) (a : Act) (w : World), HeadInv md l.toArray l.toArray.size listed → okSeq md l.toArray is listed k = true → (∀ i ∈ is, keep = false → kp i = false) → (is.length ≤ 1 ∨ keep = false) →
      wpList P l.toArray (OnlyNormal fun a2 w2 => (keep = true → T w2) ∧ K a2 w2) (picked l is) a w → wpAnyT P md l.toArray Q T kp (is.length + fuel) listed a w
  | [], listed, a, w, inv, hB, _, _, h => by
    obtain ⟨h1, h2⟩ := h
    simpa using hk listed a w inv (by simpa [okSeq] using hB) h1 h2
  | i :: is, listed, a, w, inv, hB, hkp, hone, h => by
    simp only [okSeq, Bool.and_eq_true, decide_eq_true_eq] at hB
    obtain ⟨hr, hB'⟩ := hB
    have hr' : i ∈ Region.ready md l.toArray listed := by rw [hr]; simp
    obtain ⟨_, oi, hoi, _⟩ := mem_ready.1 hr'
    have hoi' : l[i]? = some oi := by simpa using hoi
    have hlt : i < l.toArray.size := (Array.getElem?_eq_some_iff.1 hoi).1
    have hpk : picked l (i :: is) = oi :: picked l is := by simp [picked, hoi']
    rw [hpk] at h
    have e : (i :: is).length + fuel = (is.length + fuel) + 1 := by simp; omega
    rw [e]
    refine ⟨fun h0 => (by rw [hr] at h0; cases h0), fun j hj => ?_⟩
    rw [hr] at hj
    obtain rfl : j = i := by simpa using hj
    have hw := wpOp_weaken (Q := Q) (ops := l.toArray) (i := j) (fun _ _ _ h => (h : False).elim) (fun _ _ h => (h : False).elim) (show wpOp P l.toArray _ j (wpList P l.toArray _ (picked l is)) a w by unfold wpOp; simp only [hoi]; exact h)
    cases hkeep : keep with
    | false =>
      refine wpOp_mono (fun a' w' h' => ⟨fun hc => ?_, seq_sound hk is _ a' w' (inv.set hr' hlt) hB' (fun i hi => hkp i (List.mem_cons_of_mem _ hi)) (.inr hkeep) h'⟩) hw
      rw [hkp j (List.mem_cons_self ..) hkeep] at hc; cases hc
    | true =>
      have hnil : is = [] := by
        rcases hone with h1 | h1
        · cases is with
          | nil => rfl
          | cons x xs => simp at h1
        · rw [hkeep] at h1; cases h1
      subst hnil
      refine wpOp_mono (fun a' w' h' => ?_) hw
      have h'' : (keep = true → T w') ∧ K a' w' := h'
      exact ⟨fun _ => h''.1 hkeep, by simpa using hk _ a' w' (inv.set hr' hlt) (by simpa [okSeq] using hB') h''.1 h''.2⟩

theorem stages_sound {n : Nat} : ∀ (plan : List Stage) (extra : Nat) (listed : Array Bool) (a : Act) (w : World), HeadInv md l.toArray l.toArray.size listed → okStages md l.toArray ms kp plan listed = true →
    plan.all (fun s => ownSlots n (picked l s.1)) = true → (∀ s ∈ plan, s.2.2 = false → ∀ i ∈ s.2.1, kp i = false) → wpStages P l (Q .normal) T n plan a w →
    wpAnyT P md l.toArray Q T kp ((plan.map fun s => s.1.length + s.2.1.length).sum + extra) listed a w
  | [], extra, listed, a, w, _, hB, _, _, h => wpAnyT_done (by simpa [okStages] using hB) h _
  | s :: rest, extra, listed, a, w, inv, hB, hs, hkp, h => by
    obtain ⟨a', hq, hl⟩ := h
    simp only [okStages, Bool.and_eq_true] at hB
    obtain ⟨h1, h2⟩ := hB
    simp only [List.all_cons, Bool.and_eq_true] at hs
    have e : ((s :: rest).map fun s => s.1.length + s.2.1.length).sum + extra = s.1.length + (s.2.1.length + ((rest.map fun s => s.1.length + s.2.1.length).sum + extra)) := by
      simp only [List.map_cons, List.sum_cons]; omega
    rw [e]
    have tail : ∀ listed' a' w', HeadInv md l.toArray l.toArray.size listed' → okSeq md l.toArray s.2.1 listed' (fun listed => okStages md l.toArray ms kp rest listed) = true →
        wpList P l.toArray (OnlyNormal fun a2 w2 => (s.2.2 = true → T w2) ∧ wpStages P l (Q .normal) T n rest a2 w2) (picked l s.2.1) a' w' →
        wpAnyT P md l.toArray Q T kp (s.2.1.length + ((rest.map fun s => s.1.length + s.2.1.length).sum + extra)) listed' a' w' := fun listed' a' w' inv' hB' h' =>
      seq_sound (keep := s.2.2) (fun listed2 a2 w2 inv2 hB2 _ hK => stages_sound rest extra listed2 a2 w2 inv2 hB2 hs.2 (fun s' hs' => hkp s' (List.mem_cons_of_mem _ hs')) hK) s.2.1 listed' a' w' inv' hB'
        (fun i hi hk => hkp s (List.mem_cons_self ..) hk i hi) (by cases hk : s.2.2 <;> simp [hk] at h1 ⊢; exact h1) h'
    rcases hq with ⟨hnil, rfl⟩ | ⟨hT, hn, hq⟩
    · rw [hnil] at h2 ⊢
      simpa using tail listed a' w inv (by simpa [okFirst] using h2) hl
    · exact first_sound hms hsel hQ hT (fun listed' inv' hk => tail listed' a' w inv' hk hl) s.1 listed a inv h2 hs.1 hn hq

end

/-- THE RULE: a region that draws its order, by a plan. T: what its worlds have in common while what is taken first may still come up in another order; n: how many slots the frame has. -/
theorem wp_region_plan {id : Nat} {l : List Oper} {a : Act} {w : World} (T : World → Prop) (n : Nat) (plan : List Stage) (hm : P.follows .mixedOrders = true) (hB : okPlan .any l n plan = true)
    (h : wpStages P l (Q .normal) T n plan a w.drew) : (Code.region id l.toArray true).wp P Q a w := by
  simp only [okPlan, Bool.and_eq_true, decide_eq_true_eq] at hB
  obtain ⟨⟨⟨hsel, hlen⟩, hs⟩, hst⟩ := hB
  refine Code.wp_mono (Q := OnlyNormal (Q .normal)) (fun e a w h => by cases e <;> first | exact h | exact (h : False).elim) ?_
  refine wp_region_any hm (wpAny_of_T (T := T) (kp := keeps plan) _ _ _ _ ?_)
  have inv0 : HeadInv .any l.toArray l.toArray.size (Array.replicate l.toArray.size false) :=
    ⟨by simp, fun j oj _ hl => (by rw [getD_replicate_false] at hl; cases hl), fun t ht ht' => by omega⟩
  have := stages_sound (Q := OnlyNormal (Q .normal)) (T := T) (kp := keeps plan) (md := .any) (masks_spec l [] (by simp) (fun k hk => by simp at hk)) hsel (fun _ _ _ _ _ h => h) plan (l.length - (plan.map fun s => s.1.length + s.2.1.length).sum)
    (Array.replicate l.length false) a w.drew (by simpa using inv0) hst hs (fun s hs' hk i hi => by
      unfold keeps
      rw [List.all_eq_false]
      exact ⟨s, hs', by simp [Stage.loose, hk, hi]⟩) h
  rw [show (plan.map fun s => s.1.length + s.2.1.length).sum + (l.length - (plan.map fun s => s.1.length + s.2.1.length).sum) = l.toArray.size by simp; omega] at this
  simpa using this

/-! ### The moves -/

theorem wpStages_nil {l : List Oper} {N : Act → World → Prop} {n : Nat} {a : Act} {w : World} (h : N a w) : wpStages P l N T n [] a w := h
/-- A stage that keeps the class. -/
theorem wpStages_keep {l : List Oper} {N : Act → World → Prop} {n : Nat} {qs es : List Nat} {rest : List Stage} {a : Act} (a' : Act) {w : World} (hT : T w) (hn : n ≤ a.tmps.size)
    (hq : ∀ w1, T w1 → wpStill P l.toArray w1 (fun a2 => a2 = a') (picked l qs) a) (h : wpList P l.toArray (OnlyNormal fun a2 w2 => T w2 ∧ wpStages P l N T n rest a2 w2) (picked l es) a' w) :
    wpStages P l N T n ((qs, es, true) :: rest) a w := by
  refine ⟨a', .inr ⟨hT, hn, hq⟩, ?_⟩
  simpa using h
/-- The last stage: what is taken first, then the rest in its order. -/
theorem wpStages_last {l : List Oper} {N : Act → World → Prop} {n : Nat} {qs es : List Nat} {a : Act} (a' : Act) {w : World} (hT : T w) (hn : n ≤ a.tmps.size)
    (hq : ∀ w1, T w1 → wpStill P l.toArray w1 (fun a2 => a2 = a') (picked l qs) a) (h : wpList P l.toArray (OnlyNormal N) (picked l es) a' w) :
    wpStages P l N T n [(qs, es, false)] a w := by
  refine ⟨a', .inr ⟨hT, hn, hq⟩, ?_⟩
  simpa [wpStages] using h
/-- Operations in their order. -/
theorem wpStages_seq {l : List Oper} {N : Act → World → Prop} {n : Nat} {es : List Nat} {rest : List Stage} {a : Act} {w : World}
    (h : wpList P l.toArray (OnlyNormal fun a2 w2 => wpStages P l N T n rest a2 w2) (picked l es) a w) : wpStages P l N T n (([], es, false) :: rest) a w := by
  refine ⟨a, .inl ⟨rfl, rfl⟩, ?_⟩
  simpa using h
theorem wpStages_seqkeep {l : List Oper} {N : Act → World → Prop} {n : Nat} {es : List Nat} {rest : List Stage} {a : Act} {w : World}
    (h : wpList P l.toArray (OnlyNormal fun a2 w2 => T w2 ∧ wpStages P l N T n rest a2 w2) (picked l es) a w) : wpStages P l N T n (([], es, true) :: rest) a w := by
  refine ⟨a, .inl ⟨rfl, rfl⟩, ?_⟩
  simpa using h

end
end Go.Proofs.YtkapmpngglibjaaDoor
