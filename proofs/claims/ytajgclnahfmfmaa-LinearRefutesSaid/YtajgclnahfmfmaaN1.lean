/- The reference's natural numbers: what its functions compute, in numbers. -/
import Derived.Test.YtajgclnahfmfmaaW8
set_option linter.unusedSimpArgs false
set_option maxRecDepth 10000
namespace Go.Vm
open Go Go.Proofs Go.Whole
namespace Ytajgclnahfmfmaa
open Go.Proofs.Try

attribute [go_sem] Try.results75 Try.results106 Try.results107 Try.results134 Try.results135 Try.results108 Try.results109 Try.results102 Try.results101 Try.results76 Try.results66 Try.results67 Try.results77

/-- a natural number of the reference -/
def natT (nn : Bool) (n : Nat) : Tr := .sl nn (dl (digs n))
theorem cut_d (nn : Bool) (l : List Nat) (hlen : l.length ≤ 1000000) : DCall Try.prog 106 [.sl nn (dl l)] (.sl nn (dl (strip l))) := by
  refine dcall_mk orders Try.func106 rfl (by kernel_rfl) noMu (by kernel_rfl) rfl (fun hs => ?_)
  clear hs
  repeat' (first
    | with_reducible refine cdK_splitN (fun h => ?_) (fun h => ?_)
    | with_reducible refine gdK_splitTN (fun h => ?_) (fun h => ?_)
    | with_reducible refine gdK_splitFN (fun h => ?_) (fun h => ?_)
    | with_reducible refine cdK_split (fun h => ?_) (fun h => ?_)
    | with_reducible refine gdK_splitT (fun h => ?_) (fun h => ?_)
    | with_reducible refine gdK_splitF (fun h => ?_) (fun h => ?_)
    | simp only [go_sem, Nat.reduceBEq, Nat.reduceAdd, Nat.reduceMul, Nat.reduceSub, Nat.reduceLeDiff, Nat.reduceLT, Nat.reduceEqDiff, Int.reduceEq, Int.reduceBEq, Int.reduceBNe, Int.reduceLT, Int.reduceLE, *])
  refine loop_mk (fun m s' => ∃ n : Nat, m = n ∧ n ≤ l.length ∧ s'.sl 3 = .t (i64 n) ∧ strip (l.take n) = strip l) l.length ⟨l.length, rfl, Nat.le_refl _, rfl, by rw [List.take_length]⟩ ?_
  rintro n s' ⟨_, rfl, hn, h3, hl⟩ hfr G hG
  have c0 := hfr 0 (by kernel_rfl)
  clear hfr
  simp only [go_sem, Nat.reduceBEq, Nat.reduceAdd, Nat.reduceMul, Nat.reduceSub, Nat.reduceLeDiff, Nat.reduceLT, Nat.reduceEqDiff, Int.reduceEq, Int.reduceBEq, Int.reduceBNe, Int.reduceLT, Int.reduceLE] at c0
  cases n with
  | zero =>
    have g1 : decide (((0 : Nat) : Int) > 0) = false := rfl
    have hl' : strip l = [] := by rw [← hl]; rfl
    rw [hl']
    clear hl hl'
    have g2 : ((0 : Nat) : Int) ≤ (l.length : Int) := by omega
    repeat' (first
      | with_reducible refine cdK_splitN (fun h => ?_) (fun h => ?_)
      | with_reducible refine gdK_splitTN (fun h => ?_) (fun h => ?_)
      | with_reducible refine gdK_splitFN (fun h => ?_) (fun h => ?_)
      | with_reducible refine cdK_split (fun h => ?_) (fun h => ?_)
      | with_reducible refine gdK_splitT (fun h => ?_) (fun h => ?_)
      | with_reducible refine gdK_splitF (fun h => ?_) (fun h => ?_)
      | simp only [go_sem, Nat.reduceBEq, Nat.reduceAdd, Nat.reduceMul, Nat.reduceSub, Nat.reduceLeDiff, Nat.reduceLT, Nat.reduceEqDiff, Int.reduceEq, Int.reduceBEq, Int.reduceBNe, Int.reduceLT, Int.reduceLE, *])
    all_goals rfl
  | succ n =>
    have hn' : n < l.length := by omega
    have g1 : decide (((n + 1 : Nat) : Int) > 0) = true := decide_eq_true (by omega)
    have g2 := wrap_len (n := n) (by omega)
    have g3 : l[n]? = some l[n] := List.getElem?_eq_getElem hn'
    have htk : l.take (n + 1) = l.take n ++ [l[n]] := by rw [List.take_add_one, g3]; rfl
    rw [htk, strip_snoc] at hl
    generalize l[n] = u at *
    by_cases hu : u = 0
    · subst hu
      rw [if_pos rfl] at hl
      have g4 : (((0 : Nat) : Int) == 0) = true := rfl
      repeat' (first
        | with_reducible refine cdK_splitN (fun h => ?_) (fun h => ?_)
        | with_reducible refine gdK_splitTN (fun h => ?_) (fun h => ?_)
        | with_reducible refine gdK_splitFN (fun h => ?_) (fun h => ?_)
        | with_reducible refine cdK_split (fun h => ?_) (fun h => ?_)
        | with_reducible refine gdK_splitT (fun h => ?_) (fun h => ?_)
        | with_reducible refine gdK_splitF (fun h => ?_) (fun h => ?_)
        | simp only [go_sem, Nat.reduceBEq, Nat.reduceAdd, Nat.reduceMul, Nat.reduceSub, Nat.reduceLeDiff, Nat.reduceLT, Nat.reduceEqDiff, Int.reduceEq, Int.reduceBEq, Int.reduceBNe, Int.reduceLT, Int.reduceLE, *])
      exact hG n _ (Nat.lt_succ_self n) ⟨n, rfl, by omega, rfl, hl⟩
    · rw [if_neg hu, ← htk] at hl
      have g4 : ((u : Int) == 0) = false := by simpa using hu
      have g5 : ((n + 1 : Nat) : Int) ≤ (l.length : Int) := by omega
      rw [← hl, ← dl_take]
      clear hl htk
      repeat' (first
        | with_reducible refine cdK_splitN (fun h => ?_) (fun h => ?_)
        | with_reducible refine gdK_splitTN (fun h => ?_) (fun h => ?_)
        | with_reducible refine gdK_splitFN (fun h => ?_) (fun h => ?_)
        | with_reducible refine cdK_split (fun h => ?_) (fun h => ?_)
        | with_reducible refine gdK_splitT (fun h => ?_) (fun h => ?_)
        | with_reducible refine gdK_splitF (fun h => ?_) (fun h => ?_)
        | simp only [go_sem, Nat.reduceBEq, Nat.reduceAdd, Nat.reduceMul, Nat.reduceSub, Nat.reduceLeDiff, Nat.reduceLT, Nat.reduceEqDiff, Int.reduceEq, Int.reduceBEq, Int.reduceBNe, Int.reduceLT, Int.reduceLE, *])
theorem getD_get {l : List Nat} {i : Nat} (h : i < l.length) : l[i]? = some (l.getD i 0) := by
  rw [List.getD_eq_getElem?_getD, List.getElem?_eq_getElem h]; rfl
theorem digit_d (nn : Bool) (l : List Nat) (i : Nat) (hl : okD l) : DCall Try.prog 134 [.sl nn (dl l), i64 i] (.int .u64 ((l.getD i 0 : Nat) : Int)) := by
  refine dcall_mk orders Try.func134 rfl (by kernel_rfl) noMu (by kernel_rfl) rfl (fun hs => ?_)
  clear hs
  by_cases h : i < l.length
  · have g1 : decide ((i : Int) < (l.length : Int)) = true := decide_eq_true (by omega)
    have g2 := getD_get h
    have hB := hl (l.getD i 0) (by rw [List.getD_eq_getElem?_getD, List.getElem?_eq_getElem h]; exact List.getElem_mem h)
    have g3 := wrap_u64_lt (n := l.getD i 0) (by rw [B_eq] at hB; omega)
    generalize l.getD i 0 = u at *
    clear hB
    repeat' (first
      | with_reducible refine cdK_splitN (fun h => ?_) (fun h => ?_)
      | with_reducible refine gdK_splitTN (fun h => ?_) (fun h => ?_)
      | with_reducible refine gdK_splitFN (fun h => ?_) (fun h => ?_)
      | with_reducible refine cdK_split (fun h => ?_) (fun h => ?_)
      | with_reducible refine gdK_splitT (fun h => ?_) (fun h => ?_)
      | with_reducible refine gdK_splitF (fun h => ?_) (fun h => ?_)
      | simp only [go_sem, Nat.reduceBEq, Nat.reduceAdd, Nat.reduceMul, Nat.reduceSub, Nat.reduceLeDiff, Nat.reduceLT, Nat.reduceEqDiff, Int.reduceEq, Int.reduceBEq, Int.reduceBNe, Int.reduceLT, Int.reduceLE, *])
  · have g1 : decide ((i : Int) < (l.length : Int)) = false := decide_eq_false (by omega)
    have g2 : l.getD i 0 = 0 := by rw [List.getD_eq_getElem?_getD, List.getElem?_eq_none (by omega)]; rfl
    rw [g2]
    repeat' (first
      | with_reducible refine cdK_splitN (fun h => ?_) (fun h => ?_)
      | with_reducible refine gdK_splitTN (fun h => ?_) (fun h => ?_)
      | with_reducible refine gdK_splitFN (fun h => ?_) (fun h => ?_)
      | with_reducible refine cdK_split (fun h => ?_) (fun h => ?_)
      | with_reducible refine gdK_splitT (fun h => ?_) (fun h => ?_)
      | with_reducible refine gdK_splitF (fun h => ?_) (fun h => ?_)
      | simp only [go_sem, Nat.reduceBEq, Nat.reduceAdd, Nat.reduceMul, Nat.reduceSub, Nat.reduceLeDiff, Nat.reduceLT, Nat.reduceEqDiff, Int.reduceEq, Int.reduceBEq, Int.reduceBNe, Int.reduceLT, Int.reduceLE, *])
    all_goals rfl
theorem headD_getD (l : List Nat) (i : Nat) : (l.drop i).headD 0 = l.getD i 0 := by
  by_cases h : i < l.length
  · rw [List.drop_eq_getElem_cons h, List.getD_eq_getElem?_getD, List.getElem?_eq_getElem h]; rfl
  · rw [drop_headD h, List.getD_eq_getElem?_getD, List.getElem?_eq_none (by omega)]; rfl
theorem val_drop (l : List Nat) (i : Nat) : val (l.drop i) = l.getD i 0 + B * val (l.drop (i + 1)) := by
  rw [val_head_tail (l.drop i), headD_getD, drop_tail]
theorem getD_lt {l : List Nat} (h : okD l) (i : Nat) : l.getD i 0 < B := by rw [← headD_getD]; exact okD_head (okD_drop h i)
theorem drop_val_zero {l : List Nat} {i : Nat} (h : l.length ≤ i) : val (l.drop i) = 0 := by rw [List.drop_eq_nil_of_le h]; rfl
theorem natT_of {acc : List Nat} (h : okD acc) {n : Nat} (hv : val acc = n) (hne : acc = [] ↔ n = 0) : Tr.sl (!acc.isEmpty) (dl (strip acc)) = natT (decide (n ≠ 0)) n := by
  unfold natT
  rw [strip_digs h, hv]
  congr 1
  by_cases hn : n = 0
  · rw [hne.2 hn]; simp [hn]
  · have : acc ≠ [] := fun e => hn (hne.1 e)
    cases acc with
    | nil => exact absurd rfl this
    | cons => simp [hn]
theorem own_dl {h : Hp} {d : Nat} {v : PV} {acc : List Nat} {x : Nat} (ho : Own h d tU32 1 false v ((!acc.isEmpty) || !([Tr.int .u32 (x : Int)] : List Tr).isEmpty) (dl acc ++ [.int .u32 (x : Int)])) : Own h d tU32 1 false v (!(acc ++ [x]).isEmpty) (dl (acc ++ [x])) := Own.snoc (f := u32) (xs := acc) (a := x) ho
theorem plusN_d (an bn : Bool) (a b : Nat) (ha : (digs a).length ≤ 900000) (hb : (digs b).length ≤ 900000) : DCall Try.prog 107 [natT an a, natT bn b] (natT (decide (a + b ≠ 0)) (a + b)) := by
  unfold natT
  have hA := digs_ok a
  have hB := digs_ok b
  have va := val_digs a
  have vb := val_digs b
  have za : digs a = [] ↔ a = 0 := digs_nil
  have zb : digs b = [] ↔ b = 0 := digs_nil
  change DCall _ _ _ (natT (decide (a + b ≠ 0)) (a + b))
  generalize digs a = X at *
  generalize digs b = Y at *
  refine dcall_mk orders Try.func107 rfl (by kernel_rfl) (fun d => d == 37) (by kernel_rfl) rfl (fun hs => ?_)
  clear hs
  repeat' (first
    | with_reducible refine cdK_splitN (fun h => ?_) (fun h => ?_)
    | with_reducible refine gdK_splitTN (fun h => ?_) (fun h => ?_)
    | with_reducible refine gdK_splitFN (fun h => ?_) (fun h => ?_)
    | with_reducible refine cdK_split (fun h => ?_) (fun h => ?_)
    | with_reducible refine gdK_splitT (fun h => ?_) (fun h => ?_)
    | with_reducible refine gdK_splitF (fun h => ?_) (fun h => ?_)
    | simp only [go_sem, Nat.reduceBEq, Nat.reduceAdd, Nat.reduceMul, Nat.reduceSub, Nat.reduceLeDiff, Nat.reduceLT, Nat.reduceEqDiff, Int.reduceEq, Int.reduceBEq, Int.reduceBNe, Int.reduceLT, Int.reduceLE, *])
  refine loop_mk (fun m s' => ∃ (i c : Nat) (acc : List Nat), m = 2 * (max X.length Y.length - i) + c ∧ s'.sl 7 = .t (i64 i) ∧ s'.sl 6 = .t (.int .u64 (c : Int)) ∧ Own s'.hp 37 tU32 1 false (s'.sl 5) (!acc.isEmpty) (dl acc) ∧ acc.length = i ∧ (i ≤ max X.length Y.length ∨ (c = 0 ∧ i ≤ max X.length Y.length + 1)) ∧ c ≤ 1 ∧ okD acc ∧ val acc + B ^ i * (val (X.drop i) + val (Y.drop i) + c) = a + b ∧ (i = 0 → c = 0) ∧ (i = 0 ∨ X ≠ [] ∨ Y ≠ [])) (2 * max X.length Y.length)
    ⟨0, 0, [], by simp, rfl, rfl, Own.nil, rfl, .inl (Nat.zero_le _), Nat.zero_le _, okD_nil, by simp [val, va, vb], fun _ => rfl, .inl rfl⟩ ?_
  rintro m s' ⟨i, c, acc, hm, h7, h6, hown, hal, hi, hc, hao, hJ, hi0, hne⟩ hfr G hG
  have c0 := hfr 0 (by kernel_rfl)
  have c1 := hfr 1 (by kernel_rfl)
  clear hfr
  simp only [go_sem, Nat.reduceBEq, Nat.reduceAdd, Nat.reduceMul, Nat.reduceSub, Nat.reduceLeDiff, Nat.reduceLT, Nat.reduceEqDiff, Int.reduceEq, Int.reduceBEq, Int.reduceBNe, Int.reduceLT, Int.reduceLE] at c0 c1
  by_cases hend : X.length ≤ i ∧ Y.length ≤ i ∧ c = 0
  · obtain ⟨e1, e2, e3⟩ := hend
    subst e3
    have g1 : decide ((i : Int) < (X.length : Int)) = false := decide_eq_false (by omega)
    have g2 : decide ((i : Int) < (Y.length : Int)) = false := decide_eq_false (by omega)
    have g3 : decide (((0 : Nat) : Int) > 0) = false := rfl
    rw [drop_val_zero e1, drop_val_zero e2] at hJ
    simp only [Nat.add_zero, Nat.mul_zero] at hJ
    have hemp : acc = [] ↔ a + b = 0 := by
      constructor
      · intro h
        rw [h] at hal hJ
        simpa [val] using hJ.symm
      · intro h
        have x0 : X = [] := za.2 (by omega)
        have y0 : Y = [] := zb.2 (by omega)
        rcases hne with h1 | h1 | h1
        · exact List.eq_nil_of_length_eq_zero (by omega)
        · exact absurd x0 h1
        · exact absurd y0 h1
    have hcut := cut_d (!acc.isEmpty) acc (by omega)
    rw [natT_of hao hJ hemp] at hcut
    have hdep := hown.dep
    clear hJ hemp hne za zb va vb hown e1 e2
    repeat' (first
      | with_reducible refine cdK_splitN (fun h => ?_) (fun h => ?_)
      | with_reducible refine gdK_splitTN (fun h => ?_) (fun h => ?_)
      | with_reducible refine gdK_splitFN (fun h => ?_) (fun h => ?_)
      | with_reducible refine cdK_split (fun h => ?_) (fun h => ?_)
      | with_reducible refine gdK_splitT (fun h => ?_) (fun h => ?_)
      | with_reducible refine gdK_splitF (fun h => ?_) (fun h => ?_)
      | simp only [go_sem, Nat.reduceBEq, Nat.reduceAdd, Nat.reduceMul, Nat.reduceSub, Nat.reduceLeDiff, Nat.reduceLT, Nat.reduceEqDiff, Int.reduceEq, Int.reduceBEq, Int.reduceBNe, Int.reduceLT, Int.reduceLE, *])
    refine clK_fz hcut (by simp only [go_sem, Nat.reduceBEq, Nat.reduceAdd, Nat.reduceMul, Nat.reduceSub, Nat.reduceLeDiff, Nat.reduceLT, Nat.reduceEqDiff, Int.reduceEq, Int.reduceBEq, Int.reduceBNe, Int.reduceLT, Int.reduceLE, hdep]) rfl ?_
    repeat' (first
      | with_reducible refine cdK_splitN (fun h => ?_) (fun h => ?_)
      | with_reducible refine gdK_splitTN (fun h => ?_) (fun h => ?_)
      | with_reducible refine gdK_splitFN (fun h => ?_) (fun h => ?_)
      | with_reducible refine cdK_split (fun h => ?_) (fun h => ?_)
      | with_reducible refine gdK_splitT (fun h => ?_) (fun h => ?_)
      | with_reducible refine gdK_splitF (fun h => ?_) (fun h => ?_)
      | simp only [go_sem, Nat.reduceBEq, Nat.reduceAdd, Nat.reduceMul, Nat.reduceSub, Nat.reduceLeDiff, Nat.reduceLT, Nat.reduceEqDiff, Int.reduceEq, Int.reduceBEq, Int.reduceBNe, Int.reduceLT, Int.reduceLE, *])
  · have hu := getD_lt hA i
    have hv := getD_lt hB i
    have d1 := digit_d an X i hA
    have d2 := digit_d bn Y i hB
    have w1 := u64_add (X.getD i 0) (Y.getD i 0)
    rw [Nat.mod_eq_of_lt (show X.getD i 0 + Y.getD i 0 < 18446744073709551616 by rw [B_eq] at hu hv; omega)] at w1
    have w2 := u64_add c (X.getD i 0 + Y.getD i 0)
    rw [Nat.mod_eq_of_lt (show c + (X.getD i 0 + Y.getD i 0) < 18446744073709551616 by rw [B_eq] at hu hv; omega)] at w2
    have w3 := wrap_u32 (c + (X.getD i 0 + Y.getD i 0))
    have hi2 : i ≤ max X.length Y.length := by omega
    have hstep : val (X.drop i) + val (Y.drop i) + c = (c + (X.getD i 0 + Y.getD i 0)) % B + B * (val (X.drop (i + 1)) + val (Y.drop (i + 1)) + (c + (X.getD i 0 + Y.getD i 0)) / B) := by
      rw [val_drop X i, val_drop Y i]
      have := Nat.mod_add_div (c + (X.getD i 0 + Y.getD i 0)) B
      simp only [Nat.mul_add]; omega
    have hc' : (c + (X.getD i 0 + Y.getD i 0)) / B ≤ 1 := by rw [B_eq] at hu hv ⊢; omega
    have hdec : 2 * (max X.length Y.length - (i + 1)) + (c + (X.getD i 0 + Y.getD i 0)) / B < m := by
      subst hm
      by_cases hlt : i < max X.length Y.length
      · omega
      · have x0 : X.getD i 0 = 0 := by rw [List.getD_eq_getElem?_getD, List.getElem?_eq_none (by omega)]; rfl
        have y0 : Y.getD i 0 = 0 := by rw [List.getD_eq_getElem?_getD, List.getElem?_eq_none (by omega)]; rfl
        rw [x0, y0, B_eq]
        omega
    have hi3 : i + 1 ≤ max X.length Y.length ∨ ((c + (X.getD i 0 + Y.getD i 0)) / B = 0 ∧ i + 1 ≤ max X.length Y.length + 1) := by
      by_cases hlt : i < max X.length Y.length
      · left; omega
      · right
        have x0 : X.getD i 0 = 0 := by rw [List.getD_eq_getElem?_getD, List.getElem?_eq_none (by omega)]; rfl
        have y0 : Y.getD i 0 = 0 := by rw [List.getD_eq_getElem?_getD, List.getElem?_eq_none (by omega)]; rfl
        rw [x0, y0, B_eq]
        exact ⟨by omega, by omega⟩
    have hne' : X ≠ [] ∨ Y ≠ [] := by
      rcases hne with h1 | h1
      · refine Decidable.byContradiction fun h2 => ?_
        have x0 : X = [] := Decidable.byContradiction fun h => h2 (.inl h)
        have y0 : Y = [] := Decidable.byContradiction fun h => h2 (.inr h)
        exact hend ⟨by rw [x0]; simp, by rw [y0]; simp, hi0 h1⟩
      · exact h1
    have hmax : max X.length Y.length ≤ 900000 := by omega
    have hwr := wrap_succ (k := i) (by omega)
    have hjj : val (acc ++ [(c + (X.getD i 0 + Y.getD i 0)) % B]) + B ^ (i + 1) * (val (X.drop (i + 1)) + val (Y.drop (i + 1)) + (c + (X.getD i 0 + Y.getD i 0)) / B) = a + b := by
      rw [← hJ, hstep, val_append, hal, Nat.pow_succ]
      simp only [val, Nat.mul_zero, Nat.add_zero, Nat.mul_add, Nat.mul_assoc]; omega
    have hoo : okD (acc ++ [(c + (X.getD i 0 + Y.getD i 0)) % B]) := by rw [okD_append, okD_cons]; exact ⟨hao, mod_B _, okD_nil⟩
    have w4 : (c + (X.getD i 0 + Y.getD i 0)) / 4294967296 = (c + (X.getD i 0 + Y.getD i 0)) / B := rfl
    have cases3 : (decide ((i : Int) < (X.length : Int)) = true) ∨ (decide ((i : Int) < (X.length : Int)) = false ∧ decide ((i : Int) < (Y.length : Int)) = true) ∨ (decide ((i : Int) < (X.length : Int)) = false ∧ decide ((i : Int) < (Y.length : Int)) = false ∧ decide ((c : Int) > 0) = true) := by
      by_cases h1 : i < X.length
      · left; exact decide_eq_true (by omega)
      · right
        by_cases h2 : i < Y.length
        · left; exact ⟨decide_eq_false (by omega), decide_eq_true (by omega)⟩
        · right; exact ⟨decide_eq_false (by omega), decide_eq_false (by omega), decide_eq_true (by omega)⟩
    clear hstep hJ hend hne hi hi0 za zb va vb hu hv hi2
    generalize c + (X.getD i 0 + Y.getD i 0) = t at *
    rcases cases3 with g1 | ⟨g1, g2⟩ | ⟨g1, g2, g3⟩
    all_goals
      repeat' (first
        | with_reducible refine cdK_splitN (fun h => ?_) (fun h => ?_)
        | with_reducible refine gdK_splitTN (fun h => ?_) (fun h => ?_)
        | with_reducible refine gdK_splitFN (fun h => ?_) (fun h => ?_)
        | with_reducible refine cdK_split (fun h => ?_) (fun h => ?_)
        | with_reducible refine gdK_splitT (fun h => ?_) (fun h => ?_)
        | with_reducible refine gdK_splitF (fun h => ?_) (fun h => ?_)
        | refine clK_mk (d1) rfl ?_
        | refine clK_mk (d2) rfl ?_
        | simp only [go_sem, Nat.reduceBEq, Nat.reduceAdd, Nat.reduceMul, Nat.reduceSub, Nat.reduceLeDiff, Nat.reduceLT, Nat.reduceEqDiff, Int.reduceEq, Int.reduceBEq, Int.reduceBNe, Int.reduceLT, Int.reduceLE, *])
      have hdl := dl_length acc
      refine hpK_append (hown) rfl (by kernel_rfl) (by kernel_rfl) (by kernel_rfl) (by kernel_rfl) rfl (by kernel_rfl) (ok_int _ _) (by simp; omega) (fun v' h' ho hf => ?_)
      clear hdl
      repeat' (first
        | with_reducible refine cdK_splitN (fun h => ?_) (fun h => ?_)
        | with_reducible refine gdK_splitTN (fun h => ?_) (fun h => ?_)
        | with_reducible refine gdK_splitFN (fun h => ?_) (fun h => ?_)
        | with_reducible refine cdK_split (fun h => ?_) (fun h => ?_)
        | with_reducible refine gdK_splitT (fun h => ?_) (fun h => ?_)
        | with_reducible refine gdK_splitF (fun h => ?_) (fun h => ?_)
        | simp only [go_sem, Nat.reduceBEq, Nat.reduceAdd, Nat.reduceMul, Nat.reduceSub, Nat.reduceLeDiff, Nat.reduceLT, Nat.reduceEqDiff, Int.reduceEq, Int.reduceBEq, Int.reduceBNe, Int.reduceLT, Int.reduceLE, *])
      refine hG _ _ hdec ⟨i + 1, t / B, acc ++ [t % B], rfl, rfl, rfl, own_dl ho, by simp [hal], hi3, hc', hoo, hjj, fun h => absurd h (by omega), .inr hne'⟩

theorem ok_dl (l : List Nat) : ∀ x ∈ dl l, elemOK false 1 x := by
  intro x hx
  obtain ⟨n, _, rfl⟩ := List.mem_map.1 hx
  exact ⟨(fun h => nomatch h), fun _ => rfl, rfl⟩
theorem fresh_dl {h : Hp} {d : Nat} {e : TypeId} {l : List Nat} {n : Nat} (hn : l.length = n) : Own (hnew h d ⟨(dl l).map .t, 1, n, e, false, true⟩) d e 1 false (.rf (hnext h d) n) true (dl l) := by
  have := Own.fresh (h := h) (d := d) (e := e) (ok_dl l)
  rw [flat_dl, dl_length, hn] at this
  exact this
theorem own_dlt {h : Hp} {d : Nat} {v : PV} {acc : List Nat} {x : Nat} (ho : Own h d tU32 1 false v true (dl acc ++ [.int .u32 (x : Int)])) : Own h d tU32 1 false v true (dl (acc ++ [x])) := by rw [dl_append]; exact ho
theorem halfN_d (an : Bool) (a k s : Nat) (hk : k < B) (hs1 : s ≤ 1) (ha : (digs a).length ≤ 800000) : DCall Try.prog 135 [natT an a, .int .u64 (k : Int), i64 s] (natT true (a * k * B ^ s)) := by
  unfold natT
  have hA := digs_ok a
  have va := val_digs a
  change DCall _ _ _ (natT true (a * k * B ^ s))
  generalize digs a = X at *
  refine dcall_mk orders Try.func135 rfl (by kernel_rfl) (fun d => d == 11 || d == 33) (by kernel_rfl) rfl (fun hs => ?_)
  clear hs
  repeat' (first
    | with_reducible refine cdK_splitN (fun h => ?_) (fun h => ?_)
    | with_reducible refine gdK_splitTN (fun h => ?_) (fun h => ?_)
    | with_reducible refine gdK_splitFN (fun h => ?_) (fun h => ?_)
    | with_reducible refine cdK_split (fun h => ?_) (fun h => ?_)
    | with_reducible refine gdK_splitT (fun h => ?_) (fun h => ?_)
    | with_reducible refine gdK_splitF (fun h => ?_) (fun h => ?_)
    | simp only [go_sem, Nat.reduceBEq, Nat.reduceAdd, Nat.reduceMul, Nat.reduceSub, Nat.reduceLeDiff, Nat.reduceLT, Nat.reduceEqDiff, Int.reduceEq, Int.reduceBEq, Int.reduceBNe, Int.reduceLT, Int.reduceLE, *])
  refine hpK_if ⟨by omega, by omega⟩ ?_
  repeat' (first
    | with_reducible refine cdK_splitN (fun h => ?_) (fun h => ?_)
    | with_reducible refine gdK_splitTN (fun h => ?_) (fun h => ?_)
    | with_reducible refine gdK_splitFN (fun h => ?_) (fun h => ?_)
    | with_reducible refine cdK_split (fun h => ?_) (fun h => ?_)
    | with_reducible refine gdK_splitT (fun h => ?_) (fun h => ?_)
    | with_reducible refine gdK_splitF (fun h => ?_) (fun h => ?_)
    | simp only [go_sem, Nat.reduceBEq, Nat.reduceAdd, Nat.reduceMul, Nat.reduceSub, Nat.reduceLeDiff, Nat.reduceLT, Nat.reduceEqDiff, Int.reduceEq, Int.reduceBEq, Int.reduceBNe, Int.reduceLT, Int.reduceLE, *])
  refine loop_mk (fun m s' => ∃ (i c : Nat) (acc : List Nat), m = 2 * (X.length - i) + (if c = 0 then 0 else 1) ∧ s'.sl 9 = .t (i64 i) ∧ s'.sl 8 = .t (.int .u64 (c : Int)) ∧ Own s'.hp 11 tU32 1 false (s'.sl 7) true (dl acc) ∧ acc.length = s + i ∧ (i ≤ X.length ∨ (c = 0 ∧ i ≤ X.length + 1)) ∧ c < B ∧ okD acc ∧ val acc + B ^ (s + i) * (val (X.drop i) * k + c) = a * k * B ^ s) (2 * X.length)
    ⟨0, 0, List.replicate s 0, by simp, rfl, rfl, fresh_dl (by simp), by simp, .inl (Nat.zero_le _), B_pos, okD_zeros s, by rw [val_zeros]; simp [va]; rw [Nat.mul_comm]⟩ ?_
  rintro m s' ⟨i, c, acc, hm, h9, h8, hown, hal, hi, hc, hao, hJ⟩ hfr G hG
  have c0 := hfr 0 (by kernel_rfl)
  have c1 := hfr 1 (by kernel_rfl)
  clear hfr
  simp only [go_sem, Nat.reduceBEq, Nat.reduceAdd, Nat.reduceMul, Nat.reduceSub, Nat.reduceLeDiff, Nat.reduceLT, Nat.reduceEqDiff, Int.reduceEq, Int.reduceBEq, Int.reduceBNe, Int.reduceLT, Int.reduceLE] at c0 c1
  by_cases hend : X.length ≤ i ∧ c = 0
  · obtain ⟨e1, e2⟩ := hend
    subst e2
    have g1 : decide ((i : Int) < (X.length : Int)) = false := decide_eq_false (by omega)
    have g3 : decide (((0 : Nat) : Int) > 0) = false := rfl
    rw [drop_val_zero e1] at hJ
    simp only [Nat.zero_mul, Nat.add_zero, Nat.mul_zero] at hJ
    have hcut := cut_d true acc (by omega)
    rw [strip_digs hao, hJ] at hcut
    change DCall _ _ _ (natT true (a * k * B ^ s)) at hcut
    have hdep := hown.dep
    clear hJ va hown e1
    repeat' (first
      | with_reducible refine cdK_splitN (fun h => ?_) (fun h => ?_)
      | with_reducible refine gdK_splitTN (fun h => ?_) (fun h => ?_)
      | with_reducible refine gdK_splitFN (fun h => ?_) (fun h => ?_)
      | with_reducible refine cdK_split (fun h => ?_) (fun h => ?_)
      | with_reducible refine gdK_splitT (fun h => ?_) (fun h => ?_)
      | with_reducible refine gdK_splitF (fun h => ?_) (fun h => ?_)
      | simp only [go_sem, Nat.reduceBEq, Nat.reduceAdd, Nat.reduceMul, Nat.reduceSub, Nat.reduceLeDiff, Nat.reduceLT, Nat.reduceEqDiff, Int.reduceEq, Int.reduceBEq, Int.reduceBNe, Int.reduceLT, Int.reduceLE, *])
    refine clK_fz hcut (by simp only [go_sem, Nat.reduceBEq, Nat.reduceAdd, Nat.reduceMul, Nat.reduceSub, Nat.reduceLeDiff, Nat.reduceLT, Nat.reduceEqDiff, Int.reduceEq, Int.reduceBEq, Int.reduceBNe, Int.reduceLT, Int.reduceLE, hdep]) rfl ?_
    repeat' (first
      | with_reducible refine cdK_splitN (fun h => ?_) (fun h => ?_)
      | with_reducible refine gdK_splitTN (fun h => ?_) (fun h => ?_)
      | with_reducible refine gdK_splitFN (fun h => ?_) (fun h => ?_)
      | with_reducible refine cdK_split (fun h => ?_) (fun h => ?_)
      | with_reducible refine gdK_splitT (fun h => ?_) (fun h => ?_)
      | with_reducible refine gdK_splitF (fun h => ?_) (fun h => ?_)
      | simp only [go_sem, Nat.reduceBEq, Nat.reduceAdd, Nat.reduceMul, Nat.reduceSub, Nat.reduceLeDiff, Nat.reduceLT, Nat.reduceEqDiff, Int.reduceEq, Int.reduceBEq, Int.reduceBNe, Int.reduceLT, Int.reduceLE, *])
  · have hu := getD_lt hA i
    have d1 := digit_d an X i hA
    have hb := mac_room hu hk hc B_pos
    simp only [Nat.add_zero] at hb
    obtain ⟨b1, b2, b3, _⟩ := hb
    have w1 := u64_mul (X.getD i 0) k
    rw [Nat.mod_eq_of_lt b3] at w1
    have w2 := u64_add c (X.getD i 0 * k)
    rw [Nat.mod_eq_of_lt b1] at w2
    have w3 := wrap_u32 (c + X.getD i 0 * k)
    have w4 : (c + X.getD i 0 * k) / 4294967296 = (c + X.getD i 0 * k) / B := rfl
    have hstep : val (X.drop i) * k + c = (c + X.getD i 0 * k) % B + B * (val (X.drop (i + 1)) * k + (c + X.getD i 0 * k) / B) := by
      rw [val_drop X i, Nat.add_mul, Nat.mul_assoc]
      have := Nat.mod_add_div (c + X.getD i 0 * k) B
      simp only [Nat.mul_add]; omega
    have hz : X.length ≤ i → X.getD i 0 = 0 := fun h => by rw [List.getD_eq_getElem?_getD, List.getElem?_eq_none h]; rfl
    have hdec : 2 * (X.length - (i + 1)) + (if (c + X.getD i 0 * k) / B = 0 then 0 else 1) < m := by
      subst hm
      by_cases hlt : i < X.length
      · split <;> split <;> omega
      · have h0 : (c + X.getD i 0 * k) / B = 0 := by rw [hz (by omega), Nat.zero_mul, Nat.add_zero]; exact Nat.div_eq_of_lt hc
        rw [if_pos h0, if_neg (fun h => hend ⟨by omega, h⟩)]
        omega
    have hi3 : i + 1 ≤ X.length ∨ ((c + X.getD i 0 * k) / B = 0 ∧ i + 1 ≤ X.length + 1) := by
      by_cases hlt : i < X.length
      · left; omega
      · right
        refine ⟨by rw [hz (by omega), Nat.zero_mul, Nat.add_zero]; exact Nat.div_eq_of_lt hc, ?_⟩
        rcases hi with h | h
        · omega
        · exact absurd ⟨by omega, h.1⟩ hend
    have hwr := wrap_succ (k := i) (by omega)
    have hjj : val (acc ++ [(c + X.getD i 0 * k) % B]) + B ^ (s + (i + 1)) * (val (X.drop (i + 1)) * k + (c + X.getD i 0 * k) / B) = a * k * B ^ s := by
      rw [← hJ, hstep, val_append, hal, ← Nat.add_assoc, Nat.pow_succ]
      simp only [val, Nat.mul_zero, Nat.add_zero, Nat.mul_add, Nat.mul_assoc]; omega
    have hoo : okD (acc ++ [(c + X.getD i 0 * k) % B]) := by rw [okD_append, okD_cons]; exact ⟨hao, mod_B _, okD_nil⟩
    have cases2 : (decide ((i : Int) < (X.length : Int)) = true) ∨ (decide ((i : Int) < (X.length : Int)) = false ∧ decide ((c : Int) > 0) = true) := by
      by_cases h1 : i < X.length
      · left; exact decide_eq_true (by omega)
      · right; exact ⟨decide_eq_false (by omega), decide_eq_true (by omega)⟩
    clear hstep hJ hend hi va hu b1 b3 hz
    generalize c + X.getD i 0 * k = t at *
    rcases cases2 with g1 | ⟨g1, g2⟩
    all_goals
      repeat' (first
        | with_reducible refine cdK_splitN (fun h => ?_) (fun h => ?_)
        | with_reducible refine gdK_splitTN (fun h => ?_) (fun h => ?_)
        | with_reducible refine gdK_splitFN (fun h => ?_) (fun h => ?_)
        | with_reducible refine cdK_split (fun h => ?_) (fun h => ?_)
        | with_reducible refine gdK_splitT (fun h => ?_) (fun h => ?_)
        | with_reducible refine gdK_splitF (fun h => ?_) (fun h => ?_)
        | refine clK_mk (d1) rfl ?_
        | simp only [go_sem, Nat.reduceBEq, Nat.reduceAdd, Nat.reduceMul, Nat.reduceSub, Nat.reduceLeDiff, Nat.reduceLT, Nat.reduceEqDiff, Int.reduceEq, Int.reduceBEq, Int.reduceBNe, Int.reduceLT, Int.reduceLE, *])
      have hdl := dl_length acc
      refine hpK_append_any hown (by kernel_rfl) (by kernel_rfl) (by kernel_rfl) rfl (by kernel_rfl) (ok_int _ _) (by simp; omega) (fun v' h' ho hf => ?_)
      clear hdl
      repeat' (first
        | with_reducible refine cdK_splitN (fun h => ?_) (fun h => ?_)
        | with_reducible refine gdK_splitTN (fun h => ?_) (fun h => ?_)
        | with_reducible refine gdK_splitFN (fun h => ?_) (fun h => ?_)
        | with_reducible refine cdK_split (fun h => ?_) (fun h => ?_)
        | with_reducible refine gdK_splitT (fun h => ?_) (fun h => ?_)
        | with_reducible refine gdK_splitF (fun h => ?_) (fun h => ?_)
        | simp only [go_sem, Nat.reduceBEq, Nat.reduceAdd, Nat.reduceMul, Nat.reduceSub, Nat.reduceLeDiff, Nat.reduceLT, Nat.reduceEqDiff, Int.reduceEq, Int.reduceBEq, Int.reduceBNe, Int.reduceLT, Int.reduceLE, *])
      refine hG _ _ hdec ⟨i + 1, t / B, acc ++ [t % B], rfl, rfl, rfl, own_dlt ho, by simp [hal]; omega, hi3, b2, hoo, hjj⟩
end Ytajgclnahfmfmaa
end Go.Vm
