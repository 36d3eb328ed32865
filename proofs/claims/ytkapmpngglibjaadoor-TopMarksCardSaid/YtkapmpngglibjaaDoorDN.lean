/- Runes whose marks stand in the order of their classes. Plain. Conditions: each law's own premises. -/
import Derived.Test.YtkapmpngglibjaaDoorDM
namespace Go.Proofs.YtkapmpngglibjaaDoor
open Go Go.RowKit Go.Lib

def ordG : Nat → List Int → List Int → List Int
  | z, ns, [] => List.replicate z 807 ++ ns
  | z, ns, r :: t => if clsR r = 0 then List.replicate z 807 ++ (ns ++ r :: ordG 0 [] t) else if zr r then ordG (z + 1) ns t else ordG z (ns ++ [r]) t
def ordR (l : List Int) : List Int := ordG 0 [] l

/-- Nothing, or what is no mark. -/
def Plain0 : List Int → Prop
  | [] => True
  | r :: _ => clsR r = 0

theorem ordG_head (z : Nat) (ns : List Int) : ∀ (t : List Int), Plain0 t → ordG z ns t = List.replicate z 807 ++ (ns ++ ordR t)
  | [], _ => by simp [ordR, ordG]
  | r :: t, h => by
    have h' : clsR r = 0 := h
    simp [ordR, ordG, h']

theorem ordG_run : ∀ (run t : List Int) (z : Nat) (ns : List Int), (∀ x ∈ run, clsR x ≠ 0) → ordG z ns (run ++ t) = ordG (z + (run.filter zr).length) (ns ++ run.filter (fun x => !zr x)) t
  | [], t, z, ns, _ => by simp
  | r :: run, t, z, ns, h => by
    have h1 := h r List.mem_cons_self
    rw [List.cons_append, ordG, if_neg h1]
    rcases hz : zr r with _ | _
    · rw [if_neg (by simp), ordG_run run t z _ fun x hx => h x (List.mem_cons_of_mem _ hx)]
      simp [hz]
    · rw [if_pos rfl, ordG_run run t (z + 1) _ fun x hx => h x (List.mem_cons_of_mem _ hx)]
      simp [hz]
      rw [show z + 1 + (List.filter zr run).length = z + ((List.filter zr run).length + 1) by omega]

theorem ordG_swap {m n : Int} (hm : clsR m ≠ 0) (hn : clsR n ≠ 0) (hc : clsR m ≠ clsR n) (t : List Int) : ∀ (p : List Int) (z : Nat) (ns : List Int), ordG z ns (p ++ m :: n :: t) = ordG z ns (p ++ n :: m :: t)
  | [], z, ns => by
    have hz : zr m ≠ zr n := by
      intro e
      apply hc
      rcases isM_of_cls hm with rfl | rfl | rfl | rfl <;> rcases isM_of_cls hn with rfl | rfl | rfl | rfl <;> first | rfl | (revert e; decide)
    rcases h1 : zr m with _ | _ <;> rcases h2 : zr n with _ | _
    · rw [h1, h2] at hz; exact absurd rfl hz
    · simp [ordG, hm, hn, h1, h2]
    · simp [ordG, hm, hn, h1, h2]
    · rw [h1, h2] at hz; exact absurd rfl hz
  | r :: p, z, ns => by
    simp only [List.cons_append, ordG]
    rw [ordG_swap hm hn hc t p, ordG_swap hm hn hc t p, ordG_swap hm hn hc t p]

/-- In order: first the lower class, then the others. -/
theorem srt_form : ∀ (d : List Int), Srt 0 d.length d → d = List.replicate (d.filter zr).length 807 ++ d.filter (fun x => !zr x)
  | [], _ => rfl
  | x :: t, h => by
    have ht : Srt 0 t.length t := fun i j h1 h2 h3 h4 => by
      have := h (i + 1) (j + 1) (by omega) (by omega) (by rw [List.length_cons]; omega)
      exact this h4
    have ih := srt_form t ht
    rcases hx : zr x with _ | _
    · have hall : ∀ y ∈ t, zr y = false := by
        intro y hy
        obtain ⟨k, hk, rfl⟩ := List.mem_iff_getElem.1 hy
        rcases hz : zr t[k] with _ | _
        · rfl
        · have h1 : zt (x :: t) (k + 1) = true := by
            unfold zt
            rw [List.getD_cons_succ, List.getD_eq_getElem?_getD, List.getElem?_eq_getElem hk]
            exact hz
          have := h 0 (k + 1) (Nat.le_refl _) (by omega) (by rw [List.length_cons]; omega) h1
          have h2 : zr x = true := this
          rw [hx] at h2
          cases h2
      have e1 : t.filter zr = [] := List.filter_eq_nil_iff.2 fun y hy => by rw [hall y hy]; decide
      have e2 : t.filter (fun x => !zr x) = t := List.filter_eq_self.2 fun y hy => by rw [hall y hy]; rfl
      simp [hx, e1, e2]
    · have hx2 : x = 807 := by unfold zr at hx; exact beq_iff_eq.1 hx
      rw [List.filter_cons, if_pos hx, List.filter_cons, if_neg (by rw [hx]; decide), List.length_cons, List.replicate_succ, List.cons_append, ← ih, hx2]

theorem zr_count (d : List Int) : (d.filter zr).length + (d.filter (fun x => !zr x)).length = d.length := by
  induction d with
  | nil => rfl
  | cons x t ih =>
    rcases hx : zr x with _ | _ <;> simp [hx] <;> omega

/-- What the sort of a run of marks leaves. -/
theorem run_sorted {run d : List Int} (hr : Rel 0 run.length run d) (hs : Srt 0 run.length d) (hm : ∀ x ∈ run, clsR x ≠ 0) (t : List Int) (ht : Plain0 t) : ordR (run ++ t) = d ++ ordR t := by
  have hf := srt_form d (by rw [hr.len]; exact hs)
  have c1 := zr_count d
  have c2 := zr_count run
  rw [hr.fil, hr.len] at c1
  have ec : (d.filter zr).length = (run.filter zr).length := by omega
  rw [ec, hr.fil] at hf
  unfold ordR
  rw [ordG_run run t 0 [] hm, ordG_head _ _ t ht, Nat.zero_add, List.nil_append, hf, List.append_assoc]
  rfl

/-- As far as i all stands in order. -/
structure OrdTo (tot d : List Int) (i : Nat) : Prop where
  len : d.length = tot.length
  rest : d.drop i = tot.drop i
  ord : ordR tot = d.take i ++ ordR (d.drop i)

theorem OrdTo.start (tot : List Int) : OrdTo tot tot 0 := ⟨rfl, rfl, rfl⟩
theorem OrdTo.done {tot d : List Int} {i : Nat} (h : OrdTo tot d i) (hi : d.length ≤ i) : d = ordR tot := by
  rw [h.ord, List.drop_eq_nil_of_le hi, List.take_of_length_le hi]
  exact (List.append_nil d).symm
theorem OrdTo.one {tot d : List Int} {i : Nat} (h : OrdTo tot d i) (hi : i < d.length) (hc : clsR (d.getD i 0) = 0) : OrdTo tot d (i + 1) := by
  have hg := getD_at hi
  refine ⟨h.len, ?_, ?_⟩
  · have := congrArg (List.drop 1) h.rest
    rwa [List.drop_drop, List.drop_drop] at this
  · rw [h.ord, List.drop_eq_getElem_cons hi, List.take_succ_eq_append_getElem hi, List.append_assoc]
    congr 1
    have e : d[i] = d.getD i 0 := by rw [List.getD_eq_getElem?_getD, List.getElem?_eq_getElem hi]; rfl
    rw [e]
    generalize d.getD i 0 = x at hc
    simp [ordR, ordG, hc]

theorem OrdTo.run {tot d : List Int} {i k : Nat} (h : OrdTo tot d i) (hik : i ≤ k) (hk : k ≤ d.length) (hm : ∀ q, i ≤ q → q < k → clsR (d.getD q 0) ≠ 0) (he : k < d.length → clsR (d.getD k 0) = 0)
    {r' : List Int} (hr : Rel 0 (k - i) ((d.drop i).take (k - i)) r') (hs : Srt 0 (k - i) r') : OrdTo tot (d.take i ++ (r' ++ d.drop k)) k := by
  have hl : ((d.drop i).take (k - i)).length = k - i := by rw [List.length_take, List.length_drop]; omega
  have hl2 : r'.length = k - i := by rw [hr.len, hl]
  have hl3 : (d.take i).length = i := by rw [List.length_take]; omega
  have e1 : d.drop i = (d.drop i).take (k - i) ++ d.drop k := by
    conv => lhs; rw [← List.take_append_drop (k - i) (d.drop i)]
    rw [List.drop_drop, show i + (k - i) = k by omega]
  have e2 : (d.take i ++ (r' ++ d.drop k)).drop k = d.drop k := by
    rw [← List.append_assoc]
    exact List.drop_left' (by rw [List.length_append, hl2, hl3]; omega)
  have e3 : (d.take i ++ (r' ++ d.drop k)).take k = d.take i ++ r' := by
    rw [← List.append_assoc]
    exact List.take_left' (by rw [List.length_append, hl2, hl3]; omega)
  refine ⟨?_, ?_, ?_⟩
  · rw [← h.len, List.length_append, List.length_append, hl2, hl3, List.length_drop]
    omega
  · rw [e2]
    have := congrArg (List.drop (k - i)) h.rest
    rwa [List.drop_drop, List.drop_drop, show i + (k - i) = k by omega] at this
  · rw [e2, e3, h.ord, e1, List.append_assoc]
    congr 1
    refine run_sorted (by rw [hl]; exact hr) (by rw [hl]; exact hs) (fun x hx => ?_) _ ?_
    · obtain ⟨q, hq, rfl⟩ := List.mem_iff_getElem.1 hx
      rw [hl] at hq
      have := hm (i + q) (by omega) (by omega)
      rw [← part_get d i (k - i) q hq, List.getD_eq_getElem?_getD, List.getElem?_eq_getElem (by rw [hl]; exact hq)] at this
      exact this
    · by_cases hkl : k < d.length
      · rw [List.drop_eq_getElem_cons hkl]
        have := he hkl
        rw [List.getD_eq_getElem?_getD, List.getElem?_eq_getElem hkl] at this
        exact this
      · rw [List.drop_eq_nil_of_le (by omega)]
        trivial

/-- A run of marks is no longer than there are marks. -/
theorem OrdTo.short {tot d : List Int} {i k : Nat} (h : OrdTo tot d i) (hk : k ≤ d.length) (hm : ∀ q, i ≤ q → q < k → clsR (d.getD q 0) ≠ 0) : k - i ≤ mkN tot := by
  have hs : ((d.drop i).take (k - i)).Sublist tot := by
    rw [h.rest]
    exact (List.take_sublist _ _).trans (List.drop_sublist _ _)
  by_cases hik : i ≤ k
  · have hl : ((d.drop i).take (k - i)).length = k - i := by rw [List.length_take, List.length_drop]; omega
    have := (hs.filter (fun x => clsR x != 0)).length_le
    rw [List.filter_eq_self.2 (fun x hx => by
      obtain ⟨q, hq, rfl⟩ := List.mem_iff_getElem.1 hx
      rw [hl] at hq
      have := hm (i + q) (by omega) (by omega)
      rw [← part_get d i (k - i) q hq, List.getD_eq_getElem?_getD, List.getElem?_eq_getElem (by rw [hl]; exact hq)] at this
      exact bne_iff_ne.2 this), hl] at this
    exact this
  · omega

end Go.Proofs.YtkapmpngglibjaaDoor
