/- Marks of unlike classes may change places: plain; and TopMarks, walked. Conditions: each contract's own premises. -/
import Derived.Test.YtkapmpngglibjaaDoorDP
namespace Go.Proofs.YtkapmpngglibjaaDoor
open Go Go.RowKit Go.Lib

theorem enc_mark {m : Int} (hm : isM m) : (Utf8.encode m).data.toList = encM m ∧ (Utf8.encode m).size = 2 := by
  rcases hm with rfl | rfl | rfl | rfl <;> decide +kernel

def twoM (a b : ByteArray) (m n : Int) : ByteArray := a ++ Utf8.encode m ++ Utf8.encode n ++ b

theorem append_list (a b : ByteArray) : (a ++ b).data.toList = a.data.toList ++ b.data.toList := by
  rw [ByteArray.data_append, Array.toList_append]

theorem allR_two {m n : Int} (hm : isM m) (hn : isM n) (a b : ByteArray) : allR (twoM a b m n).data.toList = allR a.data.toList ++ m :: n :: allR b.data.toList := by
  have e : (twoM a b m n).data.toList = a.data.toList ++ encM m ++ encM n ++ b.data.toList := by
    unfold twoM
    rw [append_list, append_list, append_list, (enc_mark hm).1, (enc_mark hn).1]
  unfold allR
  rw [e, runesL_two hm hn, List.flatMap_append, List.flatMap_cons, List.flatMap_cons, splitR_mark hm, splitR_mark hn]
  rfl

theorem two_size {m n : Int} (hm : isM m) (hn : isM n) (a b : ByteArray) : (twoM a b m n).size = a.size + b.size + 4 := by
  unfold twoM
  rw [ByteArray.size_append, ByteArray.size_append, ByteArray.size_append, (enc_mark hm).2, (enc_mark hn).2]
  omega

theorem splitS_swap {m n : Int} (hm : clsR m ≠ 0) (hn : clsR n ≠ 0) (hc : clsR m ≠ clsR n) (a b : ByteArray) : splitS (twoM a b m n) = splitS (twoM a b n m) := by
  unfold splitS
  rw [allR_two (isM_of_cls hm) (isM_of_cls hn), allR_two (isM_of_cls hn) (isM_of_cls hm)]
  unfold ordR
  rw [ordG_swap hm hn hc]

theorem alike_consts : foldS ⟨#[99, 204, 167, 204, 129]⟩ = foldS ⟨#[99, 204, 129, 204, 167]⟩ := by
  have e1 : (⟨#[99, 204, 167, 204, 129]⟩ : ByteArray) = twoM ⟨#[99]⟩ ⟨#[]⟩ 807 769 := by decide +kernel
  have e2 : (⟨#[99, 204, 129, 204, 167]⟩ : ByteArray) = twoM ⟨#[99]⟩ ⟨#[]⟩ 769 807 := by decide +kernel
  unfold foldS
  rw [e1, e2, splitS_swap (by decide) (by decide) (by decide)]

def RetB (R : World → Prop) (e : Ending) (w' : World) : Prop := ∃ v : Bool, e = .returned (.bool v) ∧ R w'

set_option maxHeartbeats 8000000 in
set_option maxRecDepth 100000 in
theorem topMarks_any (B : Nat) (a b : ByteArray) (m n : Int) (w : World) (hM : MarksAt B w) (hW : WholeAt B w) (hB : B ≤ w.heap.size)
    (hV : ∀ (s : ByteArray) (w1 : World), s.size ≤ 30 → Below w.heap.size w w1 → Calls Tryd.prog 10 #[.string s] w1 (RetB (Below w1.heap.size w1))) :
    Calls Tryd.prog 4 #[.string a, .string b, .int .i32 m, .int .i32 n] w (Ret (.bool true) (Below w.heap.size w)) := by
  have CA := Lib.hid (alike_any B ⟨#[99, 204, 167, 204, 129]⟩ ⟨#[99, 204, 129, 204, 167]⟩ w hM hW hB (by decide) (by decide) alike_consts)
  have CC := Lib.hid (fun (r : Int) (w1 : World) (h : Below w.heap.size w w1) => class_any B r w1 (hM.below (h.mono hB)) (Nat.le_trans hB h.size))
  have CS := Lib.hid (fun (s : ByteArray) (w1 : World) (h : Below w.heap.size w w1) (hs : s.size ≤ 64) => plainSplit_any B s w1 (hM.below (h.mono hB)) (hW.below (h.mono hB)) (Nat.le_trans hB h.size) hs)
  have CV := Lib.hid hV
  clear hM hW hB hV
  obtain ⟨cm, hcm⟩ : ∃ cm, cm = clsR m := ⟨_, rfl⟩
  obtain ⟨cn, hcn⟩ : ∃ cn, cn = clsR n := ⟨_, rfl⟩
  have CM := Lib.hid (fun w1 h => CC.out m w1 h)
  have CN := Lib.hid (fun w1 h => CC.out n w1 h)
  rw [← hcm] at CM
  rw [← hcn] at CN
  have HC := Lib.hid (And.intro hcm hcn)
  clear hcm hcn CC
  go_enter Tryd.func4, Tryd.ntmps4
  go_wp2_with fail
  refine CA.out.mono ?_
  clear CA
  rintro ev w1 ⟨rfl, hb1⟩
  have HB1 := Lib.hid hb1
  clear hb1
  by_cases ha : a.size ≤ 30
  · have ha' : ((30 : Int) < (a.size : Int)) = False := eq_false (by omega)
    by_cases hb : b.size ≤ 30
    · have hb' : ((30 : Int) < (b.size : Int)) = False := eq_false (by omega)
      have HS := Lib.hid (And.intro ha hb)
      clear ha hb
      have D := Lib.hid (CM.out w1 HB1.out)
      go_wp2_with fail
      refine D.out.mono ?_
      clear D
      rintro ev w2 ⟨rfl, hb2⟩
      have HB2 := Lib.hid (HB1.out.trans (hb2.mono HB1.out.size))
      clear hb2
      by_cases hm0 : cm = 0
      · have hm0' : (cm == 0) = true := by rw [hm0]; rfl
        clear hm0
        go_wp2_with fail
        go_ret
        exact Ret.of rfl HB2.out
      · have hm0' : (cm == 0) = false := beq_eq_false_iff_ne.2 hm0
        have HM0 := Lib.hid (fun (_ : Unit) => hm0)
        clear hm0
        have D := Lib.hid (CN.out w2 HB2.out)
        go_wp2_with fail
        refine D.out.mono ?_
        clear D
        rintro ev w3 ⟨rfl, hb3⟩
        have HB3 := Lib.hid (HB2.out.trans (hb3.mono HB2.out.size))
        clear hb3
        by_cases hn0 : cn = 0
        · have hn0' : (cn == 0) = true := by rw [hn0]; rfl
          clear hn0
          go_wp2_with fail
          go_ret
          exact Ret.of rfl HB3.out
        · have hn0' : (cn == 0) = false := beq_eq_false_iff_ne.2 hn0
          have HN0 := Lib.hid (fun (_ : Unit) => hn0)
          clear hn0
          have D := Lib.hid (CM.out w3 HB3.out)
          go_wp2_with fail
          refine D.out.mono ?_
          clear D
          rintro ev w4 ⟨rfl, hb4⟩
          have HB4 := Lib.hid (HB3.out.trans (hb4.mono HB3.out.size))
          clear hb4
          have D := Lib.hid (CN.out w4 HB4.out)
          go_wp2_with fail
          refine D.out.mono ?_
          clear D
          rintro ev w5 ⟨rfl, hb5⟩
          have HB5 := Lib.hid (HB4.out.trans (hb5.mono HB4.out.size))
          clear hb5
          by_cases he : cm = cn
          · have he' : (cm == cn) = true := by rw [he]; exact beq_self_eq_true cn
            clear he
            go_wp2_with fail
            go_ret
            exact Ret.of rfl HB5.out
          · have he' : (cm == cn) = false := beq_eq_false_iff_ne.2 he
            have HE := Lib.hid (fun (_ : Unit) => he)
            clear he
            have sm : (Utf8.encode m).size = 2 := (enc_mark (isM_of_cls (by rw [← HC.out.1]; exact HM0.out ()))).2
            have sn : (Utf8.encode n).size = 2 := (enc_mark (isM_of_cls (by rw [← HC.out.2]; exact HN0.out ()))).2
            have ha2 := HS.out.1
            have hb2 := HS.out.2
            have D := Lib.hid (CV.out a w5 HS.out.1 HB5.out)
            go_wp2_with fail
            all_goals first | (exfalso; omega) | skip
            refine D.out.mono ?_
            clear D
            rintro ev w6 ⟨va, rfl, hb6⟩
            have HB6 := Lib.hid (HB5.out.trans (hb6.mono HB5.out.size))
            clear hb6
            rcases va with _ | _
            · go_wp2_with fail
              go_ret
              exact Ret.of rfl HB6.out
            · have D := Lib.hid (CV.out b w6 HS.out.2 HB6.out)
              go_wp2_with fail
              refine D.out.mono ?_
              clear D
              rintro ev w7 ⟨vb, rfl, hb7⟩
              have HB7 := Lib.hid (HB6.out.trans (hb7.mono HB6.out.size))
              clear hb7
              rcases vb with _ | _
              · go_wp2_with fail
                go_ret
                exact Ret.of rfl HB7.out
              · have hm := isM_of_cls (r := m) (by rw [← HC.out.1]; exact HM0.out ())
                have hn := isM_of_cls (r := n) (by rw [← HC.out.2]; exact HN0.out ())
                have hsw := splitS_swap (m := m) (n := n) (by rw [← HC.out.1]; exact HM0.out ()) (by rw [← HC.out.2]; exact HN0.out ()) (by rw [← HC.out.1, ← HC.out.2]; exact HE.out ()) a b
                have h1 := two_size hm hn a b
                have h2 := two_size hn hm a b
                have D1 := Lib.hid (CS.out (twoM a b m n) w7 HB7.out (by omega))
                have D2 := Lib.hid (fun (w8 : World) (h8 : Below w.heap.size w w8) => CS.out (twoM a b n m) w8 h8 (by omega))
                unfold splitS at hsw
                rw [← hsw] at D2
                obtain ⟨f, hf⟩ : ∃ f, f = runesBytes (ordR (allR (twoM a b m n).data.toList)) := ⟨_, rfl⟩
                rw [← hf] at D1 D2
                unfold twoM at D1 D2
                clear hm hn hsw h1 h2 hf sm sn ha2 hb2
                go_wp2_with fail
                refine D1.out.mono ?_
                clear D1
                rintro ev w8 ⟨rfl, hb8⟩
                have HB8 := Lib.hid (HB7.out.trans (hb8.mono HB7.out.size))
                clear hb8
                have D := Lib.hid (D2.out w8 HB8.out)
                go_wp2_with fail
                refine D.out.mono ?_
                clear D
                rintro ev w9 ⟨rfl, hb9⟩
                have HB9 := Lib.hid (HB8.out.trans (hb9.mono HB8.out.size))
                clear hb9
                go_wp2_with fail
                go_ret
                exact Ret.of (by simp) HB9.out
    · have hb' : ((30 : Int) < (b.size : Int)) = True := eq_true (by omega)
      go_wp2_with fail
      go_ret
      exact Ret.of rfl HB1.out
  · have ha' : ((30 : Int) < (a.size : Int)) = True := eq_true (by omega)
    go_wp2_with fail
    go_ret
    exact Ret.of rfl HB1.out

end Go.Proofs.YtkapmpngglibjaaDoor
