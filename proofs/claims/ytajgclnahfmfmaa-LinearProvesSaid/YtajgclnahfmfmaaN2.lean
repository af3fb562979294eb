/- The reference's natural numbers and integers: products, comparisons. -/
import Derived.Test.YtajgclnahfmfmaaN1
set_option linter.unusedSimpArgs false
set_option maxRecDepth 10000
namespace Go.Vm
open Go Go.Proofs Go.Whole
namespace Ytajgclnahfmfmaa
open Go.Proofs.Try

attribute [go_sem] natT
theorem timesN_d (an : Bool) (a k : Nat) (hk : k < 18446744073709551616) (ha : (digs a).length ≤ 700000) : DCall Try.prog 108 [natT an a, .int .u64 (k : Int)] (natT (decide (a * k ≠ 0)) (a * k)) := by
  have h0 := halfN_d an a (k % 4294967296) 0 (by rw [B_eq]; omega) (by decide) (by omega)
  have h1 := halfN_d an a (k / 4294967296) 1 (by rw [B_eq]; omega) (by decide) (by omega)
  rw [Nat.pow_zero, Nat.mul_one] at h0
  rw [Nat.pow_one] at h1
  have l0 : (digs (a * (k % 4294967296))).length ≤ 700001 := len_mul (n := 1) ha (digs_length_le (by rw [Nat.pow_one, B_eq]; omega))
  have l1 : (digs (a * (k / 4294967296) * B)).length ≤ 700003 := len_mul (n := 2) (len_mul (n := 1) ha (digs_length_le (by rw [Nat.pow_one, B_eq]; omega))) (digs_length_le (by decide))
  have hp := plusN_d true true (a * (k % 4294967296)) (a * (k / 4294967296) * B) (by omega) (by omega)
  have e : a * (k % 4294967296) + a * (k / 4294967296) * B = a * k := by
    rw [Nat.mul_assoc, ← Nat.mul_add]
    congr 1
    rw [B_eq]; omega
  rw [e] at hp
  have hm := and_mask (P := Try.prog) (h := fun _ => []) 64 hk
  clear e l0 l1 ha
  generalize a * (k % 4294967296) = x at *
  generalize a * (k / 4294967296) * B = y at *
  generalize a * k = z at *
  unfold natT at h0 h1 hp ⊢
  generalize decide (z ≠ 0) = zz at *
  refine dcall_mk orders Try.func108 rfl (by kernel_rfl) noMu (by kernel_rfl) rfl (fun hs => ?_)
  clear hs hk
  repeat' (first
    | with_reducible refine cdK_splitN (fun h => ?_) (fun h => ?_)
    | with_reducible refine gdK_splitTN (fun h => ?_) (fun h => ?_)
    | with_reducible refine gdK_splitFN (fun h => ?_) (fun h => ?_)
    | with_reducible refine cdK_split (fun h => ?_) (fun h => ?_)
    | with_reducible refine gdK_splitT (fun h => ?_) (fun h => ?_)
    | with_reducible refine gdK_splitF (fun h => ?_) (fun h => ?_)
    | refine clK_mk (h0) rfl ?_
    | refine clK_mk (h1) rfl ?_
    | refine clK_mk (hp) rfl ?_
    | simp only [go_sem, Nat.reduceBEq, Nat.reduceAdd, Nat.reduceMul, Nat.reduceSub, Nat.reduceLeDiff, Nat.reduceLT, Nat.reduceEqDiff, Int.reduceEq, Int.reduceBEq, Int.reduceBNe, Int.reduceLT, Int.reduceLE, *])
theorem ofN_d (n : Nat) (hn : n < 18446744073709551616) : DCall Try.prog 75 [.int .u64 (n : Int)] (natT true n) := by
  have h1 : n / 4294967296 % B = n / 4294967296 := Nat.mod_eq_of_lt (by rw [B_eq]; omega)
  have ho : okD [n % B, n / 4294967296] := by rw [okD_cons, okD_cons]; exact ⟨Nat.mod_lt _ B_pos, by rw [B_eq]; omega, okD_nil⟩
  have hc := cut_d true [n % B, n / 4294967296] (by simp)
  have hv : val [n % B, n / 4294967296] = n := by simp only [val, B_eq]; omega
  rw [strip_digs ho, hv] at hc
  refine dcall_mk orders Try.func75 rfl (by kernel_rfl) noMu (by kernel_rfl) rfl (fun hs => ?_)
  clear hs ho hv
  repeat' (first
    | with_reducible refine cdK_splitN (fun h => ?_) (fun h => ?_)
    | with_reducible refine gdK_splitTN (fun h => ?_) (fun h => ?_)
    | with_reducible refine gdK_splitFN (fun h => ?_) (fun h => ?_)
    | with_reducible refine cdK_split (fun h => ?_) (fun h => ?_)
    | with_reducible refine gdK_splitT (fun h => ?_) (fun h => ?_)
    | with_reducible refine gdK_splitF (fun h => ?_) (fun h => ?_)
    | refine clK_mk (hc) rfl ?_
    | simp only [go_sem, Nat.reduceBEq, Nat.reduceAdd, Nat.reduceMul, Nat.reduceSub, Nat.reduceLeDiff, Nat.reduceLT, Nat.reduceEqDiff, Int.reduceEq, Int.reduceBEq, Int.reduceBNe, Int.reduceLT, Int.reduceLE, *, wrap_u32])
theorem sizeN_d (a : Int) (h : inI64 a) : DCall Try.prog 109 [i64 a] (.int .u64 (a.natAbs : Int)) := by
  obtain ⟨h1, h2⟩ := h
  refine dcall_mk orders Try.func109 rfl (by kernel_rfl) noMu (by kernel_rfl) rfl (fun hs => ?_)
  clear hs
  by_cases hz : a < 0
  · have f0 : decide (a < 0) = true := decide_eq_true hz
    have f1 := wrap_u64_neg h1 hz
    have f2 := wrap_u64_sub (n := a.natAbs) (by omega) (by omega)
    rw [Nat.mod_eq_of_lt (by omega)] at f2
    repeat' (first
      | with_reducible refine cdK_splitN (fun h => ?_) (fun h => ?_)
      | with_reducible refine gdK_splitTN (fun h => ?_) (fun h => ?_)
      | with_reducible refine gdK_splitFN (fun h => ?_) (fun h => ?_)
      | with_reducible refine cdK_split (fun h => ?_) (fun h => ?_)
      | with_reducible refine gdK_splitT (fun h => ?_) (fun h => ?_)
      | with_reducible refine gdK_splitF (fun h => ?_) (fun h => ?_)
      | simp only [go_sem, Nat.reduceBEq, Nat.reduceAdd, Nat.reduceMul, Nat.reduceSub, Nat.reduceLeDiff, Nat.reduceLT, Nat.reduceEqDiff, Int.reduceEq, Int.reduceBEq, Int.reduceBNe, Int.reduceLT, Int.reduceLE, *])
  · have f0 : decide (a < 0) = false := decide_eq_false hz
    have f1 := wrap_u64_pos h2 (by omega)
    repeat' (first
      | with_reducible refine cdK_splitN (fun h => ?_) (fun h => ?_)
      | with_reducible refine gdK_splitTN (fun h => ?_) (fun h => ?_)
      | with_reducible refine gdK_splitFN (fun h => ?_) (fun h => ?_)
      | with_reducible refine cdK_split (fun h => ?_) (fun h => ?_)
      | with_reducible refine gdK_splitT (fun h => ?_) (fun h => ?_)
      | with_reducible refine gdK_splitF (fun h => ?_) (fun h => ?_)
      | simp only [go_sem, Nat.reduceBEq, Nat.reduceAdd, Nat.reduceMul, Nat.reduceSub, Nat.reduceLeDiff, Nat.reduceLT, Nat.reduceEqDiff, Int.reduceEq, Int.reduceBEq, Int.reduceBNe, Int.reduceLT, Int.reduceLE, *])
theorem lessN_d (an bn : Bool) (x y : Nat) (hla : (digs x).length ≤ 1000000) (hlb : (digs y).length ≤ 1000000) : DCall Try.prog 102 [natT an x, natT bn y] (.bool (decide (x < y))) := by
  have ha := digs_ok x
  have hb := digs_ok y
  have va := val_digs x
  have vb := val_digs y
  have hlen : (digs x).length ≠ (digs y).length → decide (((digs x).length : Int) < ((digs y).length : Int)) = decide (x < y) := by
    intro h
    rw [Bool.eq_iff_iff, decide_eq_true_iff, decide_eq_true_iff]
    constructor
    · intro h2
      refine Decidable.byContradiction fun h3 => ?_
      have := digs_length_mono (a := y) (b := x) (by omega)
      omega
    · intro h2
      have := digs_length_mono (a := x) (b := y) (by omega)
      omega
  unfold natT
  generalize digs x = a at *
  generalize digs y = b at *
  refine dcall_mk orders Try.func102 rfl (by kernel_rfl) noMu (by kernel_rfl) rfl (fun hs => ?_)
  clear hs
  by_cases hl : a.length = b.length
  · have f1 : ((a.length : Int) != (b.length : Int)) = false := by simp; omega
    have hl1 : a.length ≤ b.length := by omega
    have hl2 : b.length ≤ a.length := by omega
    have f2 : IntKind.i64.wrap ((a.length : Int) - 1) = (a.length : Int) - 1 := wrap_i64 (by omega) (by omega)
    rw [← va, ← vb]
    clear hl hlen va vb
    repeat' (first
      | with_reducible refine cdK_splitN (fun h => ?_) (fun h => ?_)
      | with_reducible refine gdK_splitTN (fun h => ?_) (fun h => ?_)
      | with_reducible refine gdK_splitFN (fun h => ?_) (fun h => ?_)
      | with_reducible refine cdK_split (fun h => ?_) (fun h => ?_)
      | with_reducible refine gdK_splitT (fun h => ?_) (fun h => ?_)
      | with_reducible refine gdK_splitF (fun h => ?_) (fun h => ?_)
      | simp only [go_sem, Nat.reduceBEq, Nat.reduceAdd, Nat.reduceMul, Nat.reduceSub, Nat.reduceLeDiff, Nat.reduceLT, Nat.reduceEqDiff, Int.reduceEq, Int.reduceBEq, Int.reduceBNe, Int.reduceLT, Int.reduceLE, *])
    refine loop_mk (fun m s' => ∃ i : Nat, m = i ∧ i ≤ a.length ∧ s'.sl 5 = .t (i64 ((i : Int) - 1)) ∧ a.drop i = b.drop i) a.length ⟨a.length, rfl, Nat.le_refl _, rfl, by rw [List.drop_length, List.drop_eq_nil_of_le hl2]⟩ ?_
    rintro i s' ⟨_, rfl, hi, h5, hd⟩ hfr G hG
    have c0 := hfr 0 (by kernel_rfl)
    have c1 := hfr 1 (by kernel_rfl)
    clear hfr
    simp only [go_sem, Nat.reduceBEq, Nat.reduceAdd, Nat.reduceMul, Nat.reduceSub, Nat.reduceLeDiff, Nat.reduceLT, Nat.reduceEqDiff, Int.reduceEq, Int.reduceBEq, Int.reduceBNe, Int.reduceLT, Int.reduceLE] at c0 c1
    cases i with
    | zero =>
      have g1 : decide ((((0 : Nat) : Int) - 1) ≥ 0) = false := rfl
      have he : a = b := by simpa using hd
      subst he
      have g2 : decide (val a < val a) = false := decide_eq_false (by omega)
      repeat' (first
        | with_reducible refine cdK_splitN (fun h => ?_) (fun h => ?_)
        | with_reducible refine gdK_splitTN (fun h => ?_) (fun h => ?_)
        | with_reducible refine gdK_splitFN (fun h => ?_) (fun h => ?_)
        | with_reducible refine cdK_split (fun h => ?_) (fun h => ?_)
        | with_reducible refine gdK_splitT (fun h => ?_) (fun h => ?_)
        | with_reducible refine gdK_splitF (fun h => ?_) (fun h => ?_)
        | simp only [go_sem, Nat.reduceBEq, Nat.reduceAdd, Nat.reduceMul, Nat.reduceSub, Nat.reduceLeDiff, Nat.reduceLT, Nat.reduceEqDiff, Int.reduceEq, Int.reduceBEq, Int.reduceBNe, Int.reduceLT, Int.reduceLE, *])
    | succ j =>
      have hj : j < a.length := by omega
      have hjb : j < b.length := by omega
      have e0 : (((j + 1 : Nat) : Int) - 1) = (j : Int) := by omega
      rw [e0] at h5
      have g1 : decide (((j : Nat) : Int) ≥ 0) = true := by simp
      have g2 : a[j]? = some a[j] := List.getElem?_eq_getElem hj
      have g3 : b[j]? = some b[j] := List.getElem?_eq_getElem hjb
      have g4 : IntKind.i64.wrap ((j : Int) - 1) = (j : Int) - 1 := wrap_i64 (by omega) (by omega)
      by_cases hx : a[j] = b[j]
      · rw [hx] at g2
        have g5 : (((b[j] : Nat) : Int) != ((b[j] : Nat) : Int)) = false := by simp
        have hda : a.drop j = b.drop j := by rw [List.drop_eq_getElem_cons hj, List.drop_eq_getElem_cons hjb, hd, hx]
        clear hx hd
        repeat' (first
          | with_reducible refine cdK_splitN (fun h => ?_) (fun h => ?_)
          | with_reducible refine gdK_splitTN (fun h => ?_) (fun h => ?_)
          | with_reducible refine gdK_splitFN (fun h => ?_) (fun h => ?_)
          | with_reducible refine cdK_split (fun h => ?_) (fun h => ?_)
          | with_reducible refine gdK_splitT (fun h => ?_) (fun h => ?_)
          | with_reducible refine gdK_splitF (fun h => ?_) (fun h => ?_)
          | simp only [go_sem, Nat.reduceBEq, Nat.reduceAdd, Nat.reduceMul, Nat.reduceSub, Nat.reduceLeDiff, Nat.reduceLT, Nat.reduceEqDiff, Int.reduceEq, Int.reduceBEq, Int.reduceBNe, Int.reduceLT, Int.reduceLE, *])
        refine hG _ _ (Nat.lt_succ_self j) ⟨j, rfl, by omega, rfl, hda⟩
      · have g5 : (((a[j] : Nat) : Int) != ((b[j] : Nat) : Int)) = true := by simpa using fun h => hx (by omega)
        by_cases hlt : a[j] < b[j]
        · have g6 : decide (((a[j] : Nat) : Int) < ((b[j] : Nat) : Int)) = true := by simpa using hlt
          have hv := val_lt_of_drop ha hb (by omega) hj hd (by simpa [hj, hjb] using hlt)
          rw [decide_eq_true hv]
          repeat' (first
            | with_reducible refine cdK_splitN (fun h => ?_) (fun h => ?_)
            | with_reducible refine gdK_splitTN (fun h => ?_) (fun h => ?_)
            | with_reducible refine gdK_splitFN (fun h => ?_) (fun h => ?_)
            | with_reducible refine cdK_split (fun h => ?_) (fun h => ?_)
            | with_reducible refine gdK_splitT (fun h => ?_) (fun h => ?_)
            | with_reducible refine gdK_splitF (fun h => ?_) (fun h => ?_)
            | simp only [go_sem, Nat.reduceBEq, Nat.reduceAdd, Nat.reduceMul, Nat.reduceSub, Nat.reduceLeDiff, Nat.reduceLT, Nat.reduceEqDiff, Int.reduceEq, Int.reduceBEq, Int.reduceBNe, Int.reduceLT, Int.reduceLE, *])
        · have g6 : decide (((a[j] : Nat) : Int) < ((b[j] : Nat) : Int)) = false := by simpa using hlt
          have hv := val_lt_of_drop hb ha (by omega) hjb hd.symm (by simpa [hj, hjb] using (show b[j] < a[j] by omega))
          rw [decide_eq_false (show ¬ val a < val b by omega)]
          repeat' (first
            | with_reducible refine cdK_splitN (fun h => ?_) (fun h => ?_)
            | with_reducible refine gdK_splitTN (fun h => ?_) (fun h => ?_)
            | with_reducible refine gdK_splitFN (fun h => ?_) (fun h => ?_)
            | with_reducible refine cdK_split (fun h => ?_) (fun h => ?_)
            | with_reducible refine gdK_splitT (fun h => ?_) (fun h => ?_)
            | with_reducible refine gdK_splitF (fun h => ?_) (fun h => ?_)
            | simp only [go_sem, Nat.reduceBEq, Nat.reduceAdd, Nat.reduceMul, Nat.reduceSub, Nat.reduceLeDiff, Nat.reduceLT, Nat.reduceEqDiff, Int.reduceEq, Int.reduceBEq, Int.reduceBNe, Int.reduceLT, Int.reduceLE, *])
  · have f1 : ((a.length : Int) != (b.length : Int)) = true := by simpa using fun h => hl (by omega)
    have f2 := hlen hl
    clear hlen va vb
    repeat' (first
      | with_reducible refine cdK_splitN (fun h => ?_) (fun h => ?_)
      | with_reducible refine gdK_splitTN (fun h => ?_) (fun h => ?_)
      | with_reducible refine gdK_splitFN (fun h => ?_) (fun h => ?_)
      | with_reducible refine cdK_split (fun h => ?_) (fun h => ?_)
      | with_reducible refine gdK_splitT (fun h => ?_) (fun h => ?_)
      | with_reducible refine gdK_splitF (fun h => ?_) (fun h => ?_)
      | simp only [go_sem, Nat.reduceBEq, Nat.reduceAdd, Nat.reduceMul, Nat.reduceSub, Nat.reduceLeDiff, Nat.reduceLT, Nat.reduceEqDiff, Int.reduceEq, Int.reduceBEq, Int.reduceBNe, Int.reduceLT, Int.reduceLE, *])
theorem sameN_d (an bn : Bool) (x y : Nat) (hla : (digs x).length ≤ 1000000) (hlb : (digs y).length ≤ 1000000) : DCall Try.prog 101 [natT an x, natT bn y] (.bool (decide (x = y))) := by
  have h1 := lessN_d an bn x y hla hlb
  have h2 := lessN_d bn an y x hlb hla
  rcases Nat.lt_trichotomy x y with h | h | h
  · rw [decide_eq_true h] at h1
    rw [decide_eq_false (by omega)]
    clear hla hlb h
    refine dcall_mk orders Try.func101 rfl (by kernel_rfl) noMu (by kernel_rfl) rfl (fun hs => ?_)
    clear hs
    repeat' (first
      | with_reducible refine cdK_splitN (fun h => ?_) (fun h => ?_)
      | with_reducible refine gdK_splitTN (fun h => ?_) (fun h => ?_)
      | with_reducible refine gdK_splitFN (fun h => ?_) (fun h => ?_)
      | with_reducible refine cdK_split (fun h => ?_) (fun h => ?_)
      | with_reducible refine gdK_splitT (fun h => ?_) (fun h => ?_)
      | with_reducible refine gdK_splitF (fun h => ?_) (fun h => ?_)
      | refine clK_mk (h1) rfl ?_
      | simp only [go_sem, Nat.reduceBEq, Nat.reduceAdd, Nat.reduceMul, Nat.reduceSub, Nat.reduceLeDiff, Nat.reduceLT, Nat.reduceEqDiff, Int.reduceEq, Int.reduceBEq, Int.reduceBNe, Int.reduceLT, Int.reduceLE, *])
  · rw [decide_eq_false (by omega)] at h1 h2
    rw [decide_eq_true h]
    clear hla hlb h
    refine dcall_mk orders Try.func101 rfl (by kernel_rfl) noMu (by kernel_rfl) rfl (fun hs => ?_)
    clear hs
    repeat' (first
      | with_reducible refine cdK_splitN (fun h => ?_) (fun h => ?_)
      | with_reducible refine gdK_splitTN (fun h => ?_) (fun h => ?_)
      | with_reducible refine gdK_splitFN (fun h => ?_) (fun h => ?_)
      | with_reducible refine cdK_split (fun h => ?_) (fun h => ?_)
      | with_reducible refine gdK_splitT (fun h => ?_) (fun h => ?_)
      | with_reducible refine gdK_splitF (fun h => ?_) (fun h => ?_)
      | refine clK_mk (h1) rfl ?_
      | refine clK_mk (h2) rfl ?_
      | simp only [go_sem, Nat.reduceBEq, Nat.reduceAdd, Nat.reduceMul, Nat.reduceSub, Nat.reduceLeDiff, Nat.reduceLT, Nat.reduceEqDiff, Int.reduceEq, Int.reduceBEq, Int.reduceBNe, Int.reduceLT, Int.reduceLE, *])
  · rw [decide_eq_false (by omega)] at h1
    rw [decide_eq_true h] at h2
    rw [decide_eq_false (by omega)]
    clear hla hlb h
    refine dcall_mk orders Try.func101 rfl (by kernel_rfl) noMu (by kernel_rfl) rfl (fun hs => ?_)
    clear hs
    repeat' (first
      | with_reducible refine cdK_splitN (fun h => ?_) (fun h => ?_)
      | with_reducible refine gdK_splitTN (fun h => ?_) (fun h => ?_)
      | with_reducible refine gdK_splitFN (fun h => ?_) (fun h => ?_)
      | with_reducible refine cdK_split (fun h => ?_) (fun h => ?_)
      | with_reducible refine gdK_splitT (fun h => ?_) (fun h => ?_)
      | with_reducible refine gdK_splitF (fun h => ?_) (fun h => ?_)
      | refine clK_mk (h1) rfl ?_
      | refine clK_mk (h2) rfl ?_
      | simp only [go_sem, Nat.reduceBEq, Nat.reduceAdd, Nat.reduceMul, Nat.reduceSub, Nat.reduceLeDiff, Nat.reduceLT, Nat.reduceEqDiff, Int.reduceEq, Int.reduceBEq, Int.reduceBNe, Int.reduceLT, Int.reduceLE, *])
end Ytajgclnahfmfmaa
end Go.Vm
