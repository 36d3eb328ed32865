/- A region that draws its order, where two effects or more may come first: a plan for each. Conditions: those of 'wp_region_fork' below. -/
import Derived.Test.YtkapmpngglibjaaRegion
namespace Go.Proofs.Ytkapmpngglibjaa
open Go

/-- What comes first of the effects, and the plan behind it. -/
abbrev Fork := Nat × List Stage

def forkKeeps (forks : List Fork) (j : Nat) : Bool := forks.all fun f => keeps f.2 j

def okForks (md : Region.Mode) (l : List Oper) (n : Nat) (qs : List Nat) (forks : List Fork) : Bool :=
  Region.noSelect l.toArray && ownSlots n (picked l qs) && forks.all (fun f => decide (qs.length + 1 + (f.2.map fun s => s.1.length + s.2.1.length).sum ≤ l.length)) &&
    forks.all (fun f => f.2.all (fun s => ownSlots n (picked l s.1))) &&
    okFirst md l.toArray (masks md l []) (forkKeeps forks) qs (Array.replicate l.length false) fun listed => decide (Region.ready md l.toArray listed = forks.map (·.1)) && !forks.isEmpty &&
      forks.all fun f => okStages md l.toArray (masks md l []) (forkKeeps forks) f.2 (listed.setIfInBounds f.1 true)

def wpForks (P : Program) (l : List Oper) (N : Act → World → Prop) (T : World → Prop) (n : Nat) (a : Act) (w : World) : List Fork → Prop
  | [] => True
  | f :: rest => wpList P l.toArray (OnlyNormal fun a2 w2 => T w2 ∧ wpStages P l N T n f.2 a2 w2) (picked l [f.1]) a w ∧ wpForks P l N T n a w rest

theorem wpForks_mem {P : Program} {l : List Oper} {N : Act → World → Prop} {T : World → Prop} {n : Nat} {a : Act} {w : World} : ∀ {forks : List Fork}, wpForks P l N T n a w forks → ∀ f ∈ forks,
    wpList P l.toArray (OnlyNormal fun a2 w2 => T w2 ∧ wpStages P l N T n f.2 a2 w2) (picked l [f.1]) a w
  | [], _, f, hf => by cases hf
  | g :: rest, h, f, hf => by
    rcases List.mem_cons.1 hf with rfl | hf
    · exact h.1
    · exact wpForks_mem h.2 f hf

/-- THE RULE: what is taken first, then each of the effects that may come first, with a plan of its own. -/
theorem wp_region_fork0 {P : Program} {Q : Exit → Act → World → Prop} {id : Nat} {l : List Oper} {a : Act} {w : World} (T : World → Prop) (n : Nat) (qs : List Nat) (forks : List Fork) (a' : Act) (hm : P.follows .mixedOrders = true)
    (hB : okForks .any l n qs forks = true) (hT : T w.drew) (hn : n ≤ a.tmps.size) (hq : ∀ w1, T w1 → wpStill P l.toArray w1 (fun a2 => a2 = a') (picked l qs) a)
    (h : wpForks P l (Q .normal) T n a' w.drew forks) : (Code.region id l.toArray true).wp P Q a w := by
  simp only [okForks, Bool.and_eq_true] at hB
  obtain ⟨⟨⟨⟨hsel, hs⟩, hlen⟩, hss⟩, hst⟩ := hB
  refine Code.wp_mono (Q := OnlyNormal (Q .normal)) (fun e a w h => by cases e <;> first | exact h | exact (h : False).elim) ?_
  refine wp_region_any hm (wpAny_of_T (T := T) (kp := forkKeeps forks) _ _ _ _ ?_)
  have inv0 : HeadInv .any l.toArray l.toArray.size (Array.replicate l.toArray.size false) :=
    ⟨by simp, fun j oj _ hl => (by rw [getD_replicate_false] at hl; cases hl), fun t ht ht' => by omega⟩
  have hms := masks_spec (md := .any) (ops := l.toArray) l [] (by simp) (fun k hk => by simp at hk)
  have hkp : ∀ f ∈ forks, ∀ s ∈ f.2, s.2.2 = false → ∀ i ∈ s.2.1, forkKeeps forks i = false := fun f hf s hs' hk i hi => by
    unfold forkKeeps
    rw [List.all_eq_false]
    refine ⟨f, hf, ?_⟩
    rw [Bool.not_eq_true]
    unfold keeps
    rw [List.all_eq_false]
    exact ⟨s, hs', by simp [Stage.loose, hk, hi]⟩
  have tail : ∀ (w : World), T w → wpForks P l (Q .normal) T n a' w forks → ∀ listed', HeadInv .any l.toArray l.toArray.size listed' → (decide (Region.ready .any l.toArray listed' = forks.map (·.1)) && !forks.isEmpty &&
      forks.all fun f => okStages .any l.toArray (masks .any l []) (forkKeeps forks) f.2 (listed'.setIfInBounds f.1 true)) = true →
      wpAnyT P .any l.toArray (OnlyNormal (Q .normal)) T (forkKeeps forks) (l.length - qs.length) listed' a' w := fun w hTw h listed' inv' hk => by
    simp only [Bool.and_eq_true, decide_eq_true_eq] at hk
    obtain ⟨⟨hr, hne⟩, hall⟩ := hk
    obtain ⟨f0, rest0, hf0⟩ : ∃ f0 rest0, forks = f0 :: rest0 := by
      cases forks with
      | nil => simp at hne
      | cons a b => exact ⟨a, b, rfl⟩
    have hl0 := List.all_eq_true.1 hlen f0 (by rw [hf0]; simp)
    simp only [decide_eq_true_eq] at hl0
    obtain ⟨fuel, hfuel⟩ : ∃ fuel, l.length - qs.length = fuel + 1 := ⟨l.length - qs.length - 1, by omega⟩
    rw [hfuel]
    refine ⟨fun h0 => (by rw [hr, hf0] at h0; cases h0), fun j hj => ?_⟩
    have hj' := hj
    rw [hr, List.mem_map] at hj'
    obtain ⟨f, hf, rfl⟩ := hj'
    obtain ⟨_, oi, hoi, _⟩ := mem_ready.1 hj
    have hoi' : l[f.1]? = some oi := by simpa using hoi
    have hlt : f.1 < l.toArray.size := (Array.getElem?_eq_some_iff.1 hoi).1
    have h1 := wpForks_mem h f hf
    rw [show picked l [f.1] = [oi] by simp [picked, hoi']] at h1
    have hw := wpOp_weaken (Q := OnlyNormal (Q .normal)) (ops := l.toArray) (i := f.1) (fun _ _ _ h => (h : False).elim) (fun _ _ h => (h : False).elim) (show wpOp P l.toArray _ f.1 (wpList P l.toArray _ []) a' w by unfold wpOp; simp only [hoi]; exact h1)
    refine wpOp_mono (fun a2 w2 h2 => ?_) hw
    have h2' : T w2 ∧ wpStages P l (Q .normal) T n f.2 a2 w2 := h2
    refine ⟨fun _ => h2'.1, ?_⟩
    have hlf := List.all_eq_true.1 hlen f hf
    simp only [decide_eq_true_eq] at hlf
    have := stages_sound (Q := OnlyNormal (Q .normal)) (T := T) (kp := forkKeeps forks) hms hsel (fun _ _ _ _ _ h => h) f.2 (fuel - (f.2.map fun s => s.1.length + s.2.1.length).sum) (listed'.setIfInBounds f.1 true) a2 w2 (inv'.set hj hlt)
      (List.all_eq_true.1 hall f hf) (List.all_eq_true.1 hss f hf) (hkp f hf) h2'.2
    rwa [show (f.2.map fun s => s.1.length + s.2.1.length).sum + (fuel - (f.2.map fun s => s.1.length + s.2.1.length).sum) = fuel by omega] at this
  have hqs : qs.length ≤ l.length := by
    cases hfk : forks with
    | nil =>
      exfalso
      have : ∀ (is : List Nat) (listed : Array Bool), okFirst .any l.toArray (masks .any l []) (forkKeeps forks) is listed (fun listed => decide (Region.ready .any l.toArray listed = forks.map (·.1)) && !forks.isEmpty &&
          forks.all fun f => okStages .any l.toArray (masks .any l []) (forkKeeps forks) f.2 (listed.setIfInBounds f.1 true)) = false := by
        intro is
        induction is with
        | nil => intro listed; simp [okFirst, hfk]
        | cons i is ih => intro listed; rw [okFirst, ih]; simp
      rw [this] at hst
      cases hst
    | cons f rest =>
      have := List.all_eq_true.1 hlen f (by rw [hfk]; simp)
      simp only [decide_eq_true_eq] at this
      omega
  have := first_sound (Q := OnlyNormal (Q .normal)) (T := T) (kp := forkKeeps forks) (md := .any) (n := n) (fuel := l.length - qs.length) (a' := a') hms hsel (fun _ _ _ _ _ h => h) hT (fun listed' inv' hk => tail _ hT h listed' inv' hk) qs
    (Array.replicate l.length false) a (by simpa using inv0) hst hs hn hq
  rw [show qs.length + (l.length - qs.length) = l.toArray.size by simp; omega] at this
  simpa using this

def wpFork (P : Program) (l : List Oper) (N : Act → World → Prop) (T : World → Prop) (n : Nat) (qs : List Nat) (a : Act) (w : World) (forks : List Fork) : Prop :=
  ∃ a', T w ∧ n ≤ a.tmps.size ∧ (∀ w1, T w1 → wpStill P l.toArray w1 (fun a2 => a2 = a') (picked l qs) a) ∧ wpForks P l N T n a' w forks
theorem wpFork_mk {P : Program} {l : List Oper} {N : Act → World → Prop} {T : World → Prop} {n : Nat} {qs : List Nat} {a : Act} {w : World} {forks : List Fork} (a' : Act) (hT : T w) (hn : n ≤ a.tmps.size)
    (hq : ∀ w1, T w1 → wpStill P l.toArray w1 (fun a2 => a2 = a') (picked l qs) a) (h : wpForks P l N T n a' w forks) : wpFork P l N T n qs a w forks := ⟨a', hT, hn, hq, h⟩

theorem wp_region_fork {P : Program} {Q : Exit → Act → World → Prop} {id : Nat} {l : List Oper} {a : Act} {w : World} (T : World → Prop) (n : Nat) (qs : List Nat) (forks : List Fork) (hm : P.follows .mixedOrders = true)
    (hB : okForks .any l n qs forks = true) (h : wpFork P l (Q .normal) T n qs a w.drew forks) : (Code.region id l.toArray true).wp P Q a w := by
  obtain ⟨a', hT, hn, hq, h⟩ := h
  exact wp_region_fork0 T n qs forks a' hm hB hT hn hq h

end Go.Proofs.Ytkapmpngglibjaa
