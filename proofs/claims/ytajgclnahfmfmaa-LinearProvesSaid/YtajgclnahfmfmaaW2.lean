/- Integers of any size: differences, comparisons, products. -/
import Derived.Test.YtajgclnahfmfmaaW1
set_option linter.unusedSimpArgs false
set_option maxRecDepth 10000
namespace Go.Vm
open Go Go.Proofs Go.Whole
namespace Ytajgclnahfmfmaa
open Go.Proofs.Try

theorem minus_raw (an bn : Bool) (a b : List Nat) (ha : okD a) (hb : okD b) (hla : a.length ≤ 1000000) : DCall Try.prog 132 [.sl an (dl a), .sl bn (dl b)] (.sl true (dl (subL a b 0))) := by
  refine dcall_mk orders Try.func132 rfl (by kernel_rfl) (fun d => d == 11) (by kernel_rfl) rfl (fun hs => ?_)
  repeat' (first
    | with_reducible refine cdK_splitN (fun h => ?_) (fun h => ?_)
    | with_reducible refine gdK_splitTN (fun h => ?_) (fun h => ?_)
    | with_reducible refine gdK_splitFN (fun h => ?_) (fun h => ?_)
    | with_reducible refine cdK_split (fun h => ?_) (fun h => ?_)
    | with_reducible refine gdK_splitT (fun h => ?_) (fun h => ?_)
    | with_reducible refine gdK_splitF (fun h => ?_) (fun h => ?_)
    | simp only [go_sem, Nat.reduceBEq, Nat.reduceAdd, Nat.reduceMul, Nat.reduceSub, Nat.reduceLeDiff, Nat.reduceLT, Nat.reduceEqDiff, Int.reduceEq, Int.reduceBEq, Int.reduceBNe, Int.reduceLT, Int.reduceLE, *])
  refine hpK_if ⟨by omega, by omega⟩ ?_
  repeat' (first
    | with_reducible refine cdK_splitN (fun h => ?_) (fun h => ?_)
    | with_reducible refine gdK_splitTN (fun h => ?_) (fun h => ?_)
    | with_reducible refine gdK_splitFN (fun h => ?_) (fun h => ?_)
    | with_reducible refine cdK_split (fun h => ?_) (fun h => ?_)
    | with_reducible refine gdK_splitT (fun h => ?_) (fun h => ?_)
    | with_reducible refine gdK_splitF (fun h => ?_) (fun h => ?_)
    | simp only [go_sem, Nat.reduceBEq, Nat.reduceAdd, Nat.reduceMul, Nat.reduceSub, Nat.reduceLeDiff, Nat.reduceLT, Nat.reduceEqDiff, Int.reduceEq, Int.reduceBEq, Int.reduceBNe, Int.reduceLT, Int.reduceLE, *])
  refine loop_range a (fun k s' => ∃ (cur : List Nat) (c : Nat), s'.sl 6 = .t (u32 c) ∧ hget s'.hp (11, 0) = some ⟨(dl cur).map .t, 1, a.length, tU32, false, true⟩ ∧ cur.length = a.length ∧ c ≤ 1 ∧ subL a b 0 = cur.take k ++ subL (a.drop k) (b.drop k) c) rfl rfl (by first | assumption | omega) (by kernel_rfl) (fun _ _ _ _ hj => hj) (fun _ _ _ hj => hj) ?_ (fun k x s' hx hd hk hJ hix hfr G hG => ?_) (fun s' hJ hfr => ?_)
  · exact ⟨List.replicate a.length 0, 0, rfl, rfl, by simp, Nat.zero_le _, by simp⟩
  · have c0 := hfr 0 (by kernel_rfl)
    have c1 := hfr 1 (by kernel_rfl)
    have c5 := hfr 5 (by kernel_rfl)
    have c13 := hfr 13 (by kernel_rfl)
    clear hfr
    simp only [go_sem, Nat.reduceBEq, Nat.reduceAdd, Nat.reduceMul, Nat.reduceSub, Nat.reduceLeDiff, Nat.reduceLT, Nat.reduceEqDiff, Int.reduceEq, Int.reduceBEq, Int.reduceBNe, Int.reduceLT, Int.reduceLE] at c0 c1 c5 c13
    change _ = PV.rf (11, 0) a.length at c5
    obtain ⟨cur, c, h6, h19, hcl, hc, hJ⟩ := hJ
    have hx' := List.mem_of_getElem? hx
    have hkc : k < cur.length := by omega
    have hkN1 : k + 1 ≤ a.length := hk
    rw [hd, subL, drop_tail] at hJ
    by_cases hkb : k < b.length
    · have g1 : decide ((k : Int) < (b.length : Int)) = true := decide_eq_true (by omega)
      have g2 := get_headD hkb
      repeat' (first
        | with_reducible refine cdK_splitN (fun h => ?_) (fun h => ?_)
        | with_reducible refine gdK_splitTN (fun h => ?_) (fun h => ?_)
        | with_reducible refine gdK_splitFN (fun h => ?_) (fun h => ?_)
        | with_reducible refine cdK_split (fun h => ?_) (fun h => ?_)
        | with_reducible refine gdK_splitT (fun h => ?_) (fun h => ?_)
        | with_reducible refine gdK_splitF (fun h => ?_) (fun h => ?_)
        | refine clK_mk (sub32_d x ((b.drop k).headD 0) c (ha x hx') (okD_head (okD_drop hb k)) hc) rfl ?_
        | simp only [go_sem, Nat.reduceBEq, Nat.reduceAdd, Nat.reduceMul, Nat.reduceSub, Nat.reduceLeDiff, Nat.reduceLT, Nat.reduceEqDiff, Int.reduceEq, Int.reduceBEq, Int.reduceBNe, Int.reduceLT, Int.reduceLE, *])
      refine hG _ ⟨cur.set k (sb x ((b.drop k).headD 0) c), bw x ((b.drop k).headD 0) c, rfl, ?_, by simp [hcl], ?_, ?_⟩
      · simp only [go_sem, Nat.reduceBEq, Nat.reduceAdd, Nat.reduceMul, Nat.reduceSub, Nat.reduceLeDiff, Nat.reduceLT, Nat.reduceEqDiff, Int.reduceEq, Int.reduceBEq, Int.reduceBNe, Int.reduceLT, Int.reduceLE, h19]
      · unfold bw; split <;> omega
      · rw [take_set_succ _ _ _ hkc, hJ]; simp
    · have g1 : decide ((k : Int) < (b.length : Int)) = false := decide_eq_false (by omega)
      have g2 := drop_headD hkb
      rw [g2] at hJ
      repeat' (first
        | with_reducible refine cdK_splitN (fun h => ?_) (fun h => ?_)
        | with_reducible refine gdK_splitTN (fun h => ?_) (fun h => ?_)
        | with_reducible refine gdK_splitFN (fun h => ?_) (fun h => ?_)
        | with_reducible refine cdK_split (fun h => ?_) (fun h => ?_)
        | with_reducible refine gdK_splitT (fun h => ?_) (fun h => ?_)
        | with_reducible refine gdK_splitF (fun h => ?_) (fun h => ?_)
        | refine clK_mk (sub32_d x 0 c (ha x hx') B_pos hc) rfl ?_
        | simp only [go_sem, Nat.reduceBEq, Nat.reduceAdd, Nat.reduceMul, Nat.reduceSub, Nat.reduceLeDiff, Nat.reduceLT, Nat.reduceEqDiff, Int.reduceEq, Int.reduceBEq, Int.reduceBNe, Int.reduceLT, Int.reduceLE, *])
      refine hG _ ⟨cur.set k (sb x 0 c), bw x 0 c, rfl, ?_, by simp [hcl], ?_, ?_⟩
      · simp only [go_sem, Nat.reduceBEq, Nat.reduceAdd, Nat.reduceMul, Nat.reduceSub, Nat.reduceLeDiff, Nat.reduceLT, Nat.reduceEqDiff, Int.reduceEq, Int.reduceBEq, Int.reduceBNe, Int.reduceLT, Int.reduceLE, h19]
      · unfold bw; split <;> omega
      · rw [take_set_succ _ _ _ hkc, hJ]; simp
  · obtain ⟨cur, c, h6, h19, hcl, hc, hJ⟩ := hJ
    have c5 := hfr 5 (by kernel_rfl)
    clear hfr
    simp only [go_sem, Nat.reduceBEq, Nat.reduceAdd, Nat.reduceMul, Nat.reduceSub, Nat.reduceLeDiff, Nat.reduceLT, Nat.reduceEqDiff, Int.reduceEq, Int.reduceBEq, Int.reduceBNe, Int.reduceLT, Int.reduceLE] at c5
    change _ = PV.rf (11, 0) a.length at c5
    rw [List.drop_length, subL, List.append_nil, List.take_of_length_le (by omega)] at hJ
    rw [hJ]
    clear hJ
    repeat' (first
      | with_reducible refine cdK_splitN (fun h => ?_) (fun h => ?_)
      | with_reducible refine gdK_splitTN (fun h => ?_) (fun h => ?_)
      | with_reducible refine gdK_splitFN (fun h => ?_) (fun h => ?_)
      | with_reducible refine cdK_split (fun h => ?_) (fun h => ?_)
      | with_reducible refine gdK_splitT (fun h => ?_) (fun h => ?_)
      | with_reducible refine gdK_splitF (fun h => ?_) (fun h => ?_)
      | simp only [go_sem, Nat.reduceBEq, Nat.reduceAdd, Nat.reduceMul, Nat.reduceSub, Nat.reduceLeDiff, Nat.reduceLT, Nat.reduceEqDiff, Int.reduceEq, Int.reduceBEq, Int.reduceBNe, Int.reduceLT, Int.reduceLE, *])
    exact toTr_ints 5 h19
/-- minus: a row of digits whose value is the difference -/
theorem minus_d (an bn : Bool) (a b : List Nat) (ha : okD a) (hb : okD b) (hl : b.length ≤ a.length) (hv : val b ≤ val a) (hla : a.length ≤ 1000000) : ∃ r, okD r ∧ val r = val a - val b ∧ DCall Try.prog 132 [.sl an (dl a), .sl bn (dl b)] (.sl true (dl r)) := by
  obtain ⟨h1, h2, _⟩ := subL_val ha hb hl hv
  exact ⟨_, h2, h1, minus_raw an bn a b ha hb hla⟩

/-! comparing -/
theorem compare_d (an bn : Bool) (a b : List Nat) (ha : okD a) (hb : okD b) (hla : a.length ≤ 1000000) (hlb : b.length ≤ 1000000) : DCall Try.prog 131 [.sl an (dl a), .sl bn (dl b)] (i64 (cmpD a b)) := by
  refine dcall_mk orders Try.func131 rfl (by kernel_rfl) noMu (by kernel_rfl) rfl (fun hs => ?_)
  by_cases hl : a.length = b.length
  · have f1 : ((a.length : Int) != (b.length : Int)) = false := by simp; omega
    have hl1 : a.length ≤ b.length := by omega
    have hl2 : b.length ≤ a.length := by omega
    have f2 : IntKind.i64.wrap ((a.length : Int) - 1) = (a.length : Int) - 1 := wrap_i64 (by omega) (by omega)
    have hcmp : cmpD a b = if val a < val b then -1 else if val b < val a then 1 else 0 := by unfold cmpD; rw [if_neg (by omega)]
    rw [hcmp]
    clear hcmp hl
    repeat' (first
      | with_reducible refine cdK_splitN (fun h => ?_) (fun h => ?_)
      | with_reducible refine gdK_splitTN (fun h => ?_) (fun h => ?_)
      | with_reducible refine gdK_splitFN (fun h => ?_) (fun h => ?_)
      | with_reducible refine cdK_split (fun h => ?_) (fun h => ?_)
      | with_reducible refine gdK_splitT (fun h => ?_) (fun h => ?_)
      | with_reducible refine gdK_splitF (fun h => ?_) (fun h => ?_)
      | simp only [go_sem, Nat.reduceBEq, Nat.reduceAdd, Nat.reduceMul, Nat.reduceSub, Nat.reduceLeDiff, Nat.reduceLT, Nat.reduceEqDiff, Int.reduceEq, Int.reduceBEq, Int.reduceBNe, Int.reduceLT, Int.reduceLE, *])
    refine loop_mk (fun m s' => ∃ i : Nat, m = i ∧ i ≤ a.length ∧ s'.sl 5 = .t (i64 ((i : Int) - 1)) ∧ a.drop i = b.drop i) a.length ⟨a.length, rfl, Nat.le_refl _, rfl, by rw [List.drop_length, List.drop_eq_nil_of_le hl2]⟩ ?_
    rintro i s' ⟨_, rfl, hi, h5, hd⟩ hfr G hG
    have c0 := hfr 0 (by kernel_rfl)
    have c1 := hfr 1 (by kernel_rfl)
    clear hfr
    simp only [go_sem, Nat.reduceBEq, Nat.reduceAdd, Nat.reduceMul, Nat.reduceSub, Nat.reduceLeDiff, Nat.reduceLT, Nat.reduceEqDiff, Int.reduceEq, Int.reduceBEq, Int.reduceBNe, Int.reduceLT, Int.reduceLE] at c0 c1
    cases i with
    | zero =>
      have g1 : decide ((((0 : Nat) : Int) - 1) ≥ 0) = false := rfl
      have he : a = b := by simpa using hd
      subst he
      have g2 : (if val a < val a then (-1 : Int) else if val a < val a then 1 else 0) = 0 := by simp
      rw [g2]
      repeat' (first
        | with_reducible refine cdK_splitN (fun h => ?_) (fun h => ?_)
        | with_reducible refine gdK_splitTN (fun h => ?_) (fun h => ?_)
        | with_reducible refine gdK_splitFN (fun h => ?_) (fun h => ?_)
        | with_reducible refine cdK_split (fun h => ?_) (fun h => ?_)
        | with_reducible refine gdK_splitT (fun h => ?_) (fun h => ?_)
        | with_reducible refine gdK_splitF (fun h => ?_) (fun h => ?_)
        | simp only [go_sem, Nat.reduceBEq, Nat.reduceAdd, Nat.reduceMul, Nat.reduceSub, Nat.reduceLeDiff, Nat.reduceLT, Nat.reduceEqDiff, Int.reduceEq, Int.reduceBEq, Int.reduceBNe, Int.reduceLT, Int.reduceLE, *])
    | succ j =>
      have hj : j < a.length := by omega
      have hjb : j < b.length := by omega
      have e0 : (((j + 1 : Nat) : Int) - 1) = (j : Int) := by omega
      rw [e0] at h5
      have g1 : decide (((j : Nat) : Int) ≥ 0) = true := by simp
      have g2 : a[j]? = some a[j] := List.getElem?_eq_getElem hj
      have g3 : b[j]? = some b[j] := List.getElem?_eq_getElem hjb
      have g4 : IntKind.i64.wrap ((j : Int) - 1) = (j : Int) - 1 := wrap_i64 (by omega) (by omega)
      by_cases hx : a[j] = b[j]
      · rw [hx] at g2
        have g5 : (((b[j] : Nat) : Int) != ((b[j] : Nat) : Int)) = false := by simp
        have hda : a.drop j = b.drop j := by rw [List.drop_eq_getElem_cons hj, List.drop_eq_getElem_cons hjb, hd, hx]
        clear hx hd
        repeat' (first
          | with_reducible refine cdK_splitN (fun h => ?_) (fun h => ?_)
          | with_reducible refine gdK_splitTN (fun h => ?_) (fun h => ?_)
          | with_reducible refine gdK_splitFN (fun h => ?_) (fun h => ?_)
          | with_reducible refine cdK_split (fun h => ?_) (fun h => ?_)
          | with_reducible refine gdK_splitT (fun h => ?_) (fun h => ?_)
          | with_reducible refine gdK_splitF (fun h => ?_) (fun h => ?_)
          | simp only [go_sem, Nat.reduceBEq, Nat.reduceAdd, Nat.reduceMul, Nat.reduceSub, Nat.reduceLeDiff, Nat.reduceLT, Nat.reduceEqDiff, Int.reduceEq, Int.reduceBEq, Int.reduceBNe, Int.reduceLT, Int.reduceLE, *])
        refine hG _ _ (Nat.lt_succ_self j) ⟨j, rfl, by omega, rfl, hda⟩
      · have g5 : (((a[j] : Nat) : Int) != ((b[j] : Nat) : Int)) = true := by simpa using fun h => hx (by omega)
        by_cases hlt : a[j] < b[j]
        · have g6 : decide (((a[j] : Nat) : Int) < ((b[j] : Nat) : Int)) = true := by simpa using hlt
          have hv := val_lt_of_drop ha hb (by omega) hj hd (by simpa [hj, hjb] using hlt)
          rw [if_pos hv]
          repeat' (first
            | with_reducible refine cdK_splitN (fun h => ?_) (fun h => ?_)
            | with_reducible refine gdK_splitTN (fun h => ?_) (fun h => ?_)
            | with_reducible refine gdK_splitFN (fun h => ?_) (fun h => ?_)
            | with_reducible refine cdK_split (fun h => ?_) (fun h => ?_)
            | with_reducible refine gdK_splitT (fun h => ?_) (fun h => ?_)
            | with_reducible refine gdK_splitF (fun h => ?_) (fun h => ?_)
            | simp only [go_sem, Nat.reduceBEq, Nat.reduceAdd, Nat.reduceMul, Nat.reduceSub, Nat.reduceLeDiff, Nat.reduceLT, Nat.reduceEqDiff, Int.reduceEq, Int.reduceBEq, Int.reduceBNe, Int.reduceLT, Int.reduceLE, *])
        · have g6 : decide (((a[j] : Nat) : Int) < ((b[j] : Nat) : Int)) = false := by simpa using hlt
          have hv := val_lt_of_drop hb ha (by omega) hjb hd.symm (by simpa [hj, hjb] using (show b[j] < a[j] by omega))
          rw [if_neg (by omega), if_pos hv]
          repeat' (first
            | with_reducible refine cdK_splitN (fun h => ?_) (fun h => ?_)
            | with_reducible refine gdK_splitTN (fun h => ?_) (fun h => ?_)
            | with_reducible refine gdK_splitFN (fun h => ?_) (fun h => ?_)
            | with_reducible refine cdK_split (fun h => ?_) (fun h => ?_)
            | with_reducible refine gdK_splitT (fun h => ?_) (fun h => ?_)
            | with_reducible refine gdK_splitF (fun h => ?_) (fun h => ?_)
            | simp only [go_sem, Nat.reduceBEq, Nat.reduceAdd, Nat.reduceMul, Nat.reduceSub, Nat.reduceLeDiff, Nat.reduceLT, Nat.reduceEqDiff, Int.reduceEq, Int.reduceBEq, Int.reduceBNe, Int.reduceLT, Int.reduceLE, *])
  · have f1 : ((a.length : Int) != (b.length : Int)) = true := by simpa using fun h => hl (by omega)
    have f2 : IntKind.i64.wrap ((a.length : Int) - (b.length : Int)) = (a.length : Int) - (b.length : Int) := wrap_i64 (by omega) (by omega)
    have hcmp : cmpD a b = (a.length : Int) - b.length := by unfold cmpD; rw [if_pos hl]
    rw [hcmp]
    repeat' (first
      | with_reducible refine cdK_splitN (fun h => ?_) (fun h => ?_)
      | with_reducible refine gdK_splitTN (fun h => ?_) (fun h => ?_)
      | with_reducible refine gdK_splitFN (fun h => ?_) (fun h => ?_)
      | with_reducible refine cdK_split (fun h => ?_) (fun h => ?_)
      | with_reducible refine gdK_splitT (fun h => ?_) (fun h => ?_)
      | with_reducible refine gdK_splitF (fun h => ?_) (fun h => ?_)
      | simp only [go_sem, Nat.reduceBEq, Nat.reduceAdd, Nat.reduceMul, Nat.reduceSub, Nat.reduceLeDiff, Nat.reduceLT, Nat.reduceEqDiff, Int.reduceEq, Int.reduceBEq, Int.reduceBNe, Int.reduceLT, Int.reduceLE, *])

/-! sums and differences of integers -/
/-- an integer that the program can hold -/
def fits (z : Int) : Prop := (digs z.natAbs).length ≤ 400000
theorem fits.le {z : Int} (h : fits z) : (digs z.natAbs).length ≤ 1000000 := Nat.le_trans h (by decide)
theorem fits_mono {x y : Int} (h : x.natAbs ≤ y.natAbs) (hy : fits y) : fits x := Nat.le_trans (digs_length_mono h) hy
theorem add_d (xn yn : Bool) (x y : Int) (hx : fits x) (hy : fits y) : DCall Try.prog 100 [encI xn x, encI yn y] (encI true (x + y)) := by
  replace hx := hx.le
  replace hy := hy.le
  by_cases hs : decide (x < 0) = decide (y < 0)
  · obtain ⟨r, h1, h2, h3⟩ := plus_d xn yn (digs x.natAbs) (digs y.natAbs) (digs_ok _) (digs_ok _) hx hy
    have ht := trim_d true r (decide (x < 0)) h1
    rw [h2, val_digs, val_digs] at ht
    have e : (if decide (x < 0) = true then -((x.natAbs + y.natAbs : Nat) : Int) else ((x.natAbs + y.natAbs : Nat) : Int)) = x + y := by
      by_cases h : x < 0
      · have : y < 0 := by simpa [h] using hs
        simp [h]; omega
      · have : ¬ y < 0 := by simpa [h] using hs
        simp [h]; omega
    rw [e] at ht
    have hb : (decide (x < 0) == decide (y < 0)) = true := by simpa using hs
    clear hs
    refine dcall_mk orders Try.func100 rfl (by kernel_rfl) (fun d => d == 4) (by kernel_rfl) rfl (fun hs => ?_)
    repeat' (first
      | with_reducible refine cdK_splitN (fun h => ?_) (fun h => ?_)
      | with_reducible refine gdK_splitTN (fun h => ?_) (fun h => ?_)
      | with_reducible refine gdK_splitFN (fun h => ?_) (fun h => ?_)
      | with_reducible refine cdK_split (fun h => ?_) (fun h => ?_)
      | with_reducible refine gdK_splitT (fun h => ?_) (fun h => ?_)
      | with_reducible refine gdK_splitF (fun h => ?_) (fun h => ?_)
      | refine clK_mk (h3) rfl ?_
      | refine clK_mk (ht) rfl ?_
      | simp only [go_sem, Nat.reduceBEq, Nat.reduceAdd, Nat.reduceMul, Nat.reduceSub, Nat.reduceLeDiff, Nat.reduceLT, Nat.reduceEqDiff, Int.reduceEq, Int.reduceBEq, Int.reduceBNe, Int.reduceLT, Int.reduceLE, *])
  · have hb : (decide (x < 0) == decide (y < 0)) = false := by simpa using hs
    have hc := compare_d xn yn (digs x.natAbs) (digs y.natAbs) (digs_ok _) (digs_ok _) hx hy
    by_cases hle : y.natAbs ≤ x.natAbs
    · obtain ⟨r, h1, h2, h3⟩ := minus_d xn yn (digs x.natAbs) (digs y.natAbs) (digs_ok _) (digs_ok _) (digs_length_mono hle) (by rw [val_digs, val_digs]; exact hle) hx
      have ht := trim_d true r (decide (x < 0)) h1
      rw [h2, val_digs, val_digs] at ht
      have e : (if decide (x < 0) = true then -((x.natAbs - y.natAbs : Nat) : Int) else ((x.natAbs - y.natAbs : Nat) : Int)) = x + y := by
        by_cases h : x < 0
        · have : ¬ y < 0 := by simpa [h] using hs
          simp [h]; omega
        · have : y < 0 := by simpa [h] using hs
          simp [h]; omega
      rw [e] at ht
      have hg : decide (cmpD (digs x.natAbs) (digs y.natAbs) ≥ 0) = true := decide_eq_true ((cmpD_digs _ _).2 hle)
      refine dcall_mk orders Try.func100 rfl (by kernel_rfl) (fun d => d == 4) (by kernel_rfl) rfl (fun hs => ?_)
      repeat' (first
        | with_reducible refine cdK_splitN (fun h => ?_) (fun h => ?_)
        | with_reducible refine gdK_splitTN (fun h => ?_) (fun h => ?_)
        | with_reducible refine gdK_splitFN (fun h => ?_) (fun h => ?_)
        | with_reducible refine cdK_split (fun h => ?_) (fun h => ?_)
        | with_reducible refine gdK_splitT (fun h => ?_) (fun h => ?_)
        | with_reducible refine gdK_splitF (fun h => ?_) (fun h => ?_)
        | refine clK_mk (hc) rfl ?_
        | refine clK_mk (h3) rfl ?_
        | refine clK_mk (ht) rfl ?_
        | simp only [go_sem, Nat.reduceBEq, Nat.reduceAdd, Nat.reduceMul, Nat.reduceSub, Nat.reduceLeDiff, Nat.reduceLT, Nat.reduceEqDiff, Int.reduceEq, Int.reduceBEq, Int.reduceBNe, Int.reduceLT, Int.reduceLE, *])
    · obtain ⟨r, h1, h2, h3⟩ := minus_d yn xn (digs y.natAbs) (digs x.natAbs) (digs_ok _) (digs_ok _) (digs_length_mono (by omega)) (by rw [val_digs, val_digs]; omega) hy
      have ht := trim_d true r (decide (y < 0)) h1
      rw [h2, val_digs, val_digs] at ht
      have e : (if decide (y < 0) = true then -((y.natAbs - x.natAbs : Nat) : Int) else ((y.natAbs - x.natAbs : Nat) : Int)) = x + y := by
        by_cases h : y < 0
        · have : ¬ x < 0 := fun h2 => hs (by simp [h, h2])
          simp [h]; omega
        · have : x < 0 := Decidable.byContradiction fun h2 => hs (by simp [h, h2])
          simp [h]; omega
      rw [e] at ht
      have hg : decide (cmpD (digs x.natAbs) (digs y.natAbs) ≥ 0) = false := decide_eq_false (fun h => hle ((cmpD_digs _ _).1 h))
      refine dcall_mk orders Try.func100 rfl (by kernel_rfl) (fun d => d == 4) (by kernel_rfl) rfl (fun hs => ?_)
      repeat' (first
        | with_reducible refine cdK_splitN (fun h => ?_) (fun h => ?_)
        | with_reducible refine gdK_splitTN (fun h => ?_) (fun h => ?_)
        | with_reducible refine gdK_splitFN (fun h => ?_) (fun h => ?_)
        | with_reducible refine cdK_split (fun h => ?_) (fun h => ?_)
        | with_reducible refine gdK_splitT (fun h => ?_) (fun h => ?_)
        | with_reducible refine gdK_splitF (fun h => ?_) (fun h => ?_)
        | refine clK_mk (hc) rfl ?_
        | refine clK_mk (h3) rfl ?_
        | refine clK_mk (ht) rfl ?_
        | simp only [go_sem, Nat.reduceBEq, Nat.reduceAdd, Nat.reduceMul, Nat.reduceSub, Nat.reduceLeDiff, Nat.reduceLT, Nat.reduceEqDiff, Int.reduceEq, Int.reduceBEq, Int.reduceBNe, Int.reduceLT, Int.reduceLE, *])
theorem sub_d (xn yn : Bool) (x y : Int) (hx : fits x) (hy : fits y) : DCall Try.prog 105 [encI xn x, encI yn y] (encI true (x - y)) := by
  rw [Int.sub_eq_add_neg]
  have hy' : fits (-y) := fits_mono (by omega) hy
  refine dcall_mk orders Try.func105 rfl (by kernel_rfl) (fun d => d == 4) (by kernel_rfl) rfl (fun hs => ?_)
  repeat' (first
    | with_reducible refine cdK_splitN (fun h => ?_) (fun h => ?_)
    | with_reducible refine gdK_splitTN (fun h => ?_) (fun h => ?_)
    | with_reducible refine gdK_splitFN (fun h => ?_) (fun h => ?_)
    | with_reducible refine cdK_split (fun h => ?_) (fun h => ?_)
    | with_reducible refine gdK_splitT (fun h => ?_) (fun h => ?_)
    | with_reducible refine gdK_splitF (fun h => ?_) (fun h => ?_)
    | refine clK_mk (neg_d yn y) rfl ?_
    | refine clK_mk (add_d xn yn x (-y) hx hy') rfl ?_
    | simp only [go_sem, Nat.reduceBEq, Nat.reduceAdd, Nat.reduceMul, Nat.reduceSub, Nat.reduceLeDiff, Nat.reduceLT, Nat.reduceEqDiff, Int.reduceEq, Int.reduceBEq, Int.reduceBNe, Int.reduceLT, Int.reduceLE, *])
theorem cmp_d (xn yn : Bool) (x y : Int) (hx : fits x) (hy : fits y) : DCall Try.prog 71 [encI xn x, encI yn y] (i64 (x - y).sign) := by
  refine dcall_mk orders Try.func71 rfl (by kernel_rfl) noMu (by kernel_rfl) rfl (fun hs => ?_)
  repeat' (first
    | with_reducible refine cdK_splitN (fun h => ?_) (fun h => ?_)
    | with_reducible refine gdK_splitTN (fun h => ?_) (fun h => ?_)
    | with_reducible refine gdK_splitFN (fun h => ?_) (fun h => ?_)
    | with_reducible refine cdK_split (fun h => ?_) (fun h => ?_)
    | with_reducible refine gdK_splitT (fun h => ?_) (fun h => ?_)
    | with_reducible refine gdK_splitF (fun h => ?_) (fun h => ?_)
    | refine clK_mk (sub_d xn yn x y hx hy) rfl ?_
    | refine clK_mk (sign_d true (x - y)) rfl ?_
    | simp only [go_sem, Nat.reduceBEq, Nat.reduceAdd, Nat.reduceMul, Nat.reduceSub, Nat.reduceLeDiff, Nat.reduceLT, Nat.reduceEqDiff, Int.reduceEq, Int.reduceBEq, Int.reduceBNe, Int.reduceLT, Int.reduceLE, *])
end Ytajgclnahfmfmaa
end Go.Vm
