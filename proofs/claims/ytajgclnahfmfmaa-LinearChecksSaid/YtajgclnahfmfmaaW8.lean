/- Rational numbers: differences, products, comparisons; common denominators. -/
import Derived.Test.YtajgclnahfmfmaaW7
set_option linter.unusedSimpArgs false
set_option maxRecDepth 10000
namespace Go.Vm
open Go Go.Proofs Go.Whole
namespace Ytajgclnahfmfmaa
open Go.Proofs.Try

theorem qfits_neg {q : Rat} (h : qfits q) : qfits (-q) := by
  unfold qfits at *
  rw [Rat.neg_num, Rat.neg_den, Int.natAbs_neg]; exact h
theorem qsub_d (p q : Rat) (hp : qfits p) (hq : qfits q) : DCall Try.prog 119 [encQ p, encQ q] (encQ (p - q)) := by
  rw [Rat.sub_eq_add_neg]
  have n1 := qneg_d q
  have a1 := qadd_d p (-q) hp (qfits_neg hq)
  refine dcall_mk orders Try.func119 rfl (by kernel_rfl) (fun d => d == 4) (by kernel_rfl) rfl (fun hs => ?_)
  clear hs
  repeat' (first
    | with_reducible refine cdK_splitN (fun h => ?_) (fun h => ?_)
    | with_reducible refine gdK_splitTN (fun h => ?_) (fun h => ?_)
    | with_reducible refine gdK_splitFN (fun h => ?_) (fun h => ?_)
    | with_reducible refine cdK_split (fun h => ?_) (fun h => ?_)
    | with_reducible refine gdK_splitT (fun h => ?_) (fun h => ?_)
    | with_reducible refine gdK_splitF (fun h => ?_) (fun h => ?_)
    | refine clK_mk (n1) rfl ?_
    | refine clK_mk (a1) rfl ?_
    | simp only [go_sem, Nat.reduceBEq, Nat.reduceAdd, Nat.reduceMul, Nat.reduceSub, Nat.reduceLeDiff, Nat.reduceLT, Nat.reduceEqDiff, Int.reduceEq, Int.reduceBEq, Int.reduceBNe, Int.reduceLT, Int.reduceLE, *])
theorem qcmp_d (p q : Rat) (hp : qfits p) (hq : qfits q) : DCall Try.prog 137 [encQ p, encQ q] (i64 (p - q).num.sign) := by
  have a1 := qsub_d p q hp hq
  have a2 := qsign_d (p - q)
  refine dcall_mk orders Try.func137 rfl (by kernel_rfl) noMu (by kernel_rfl) rfl (fun hs => ?_)
  clear hs
  repeat' (first
    | with_reducible refine cdK_splitN (fun h => ?_) (fun h => ?_)
    | with_reducible refine gdK_splitTN (fun h => ?_) (fun h => ?_)
    | with_reducible refine gdK_splitFN (fun h => ?_) (fun h => ?_)
    | with_reducible refine cdK_split (fun h => ?_) (fun h => ?_)
    | with_reducible refine gdK_splitT (fun h => ?_) (fun h => ?_)
    | with_reducible refine gdK_splitF (fun h => ?_) (fun h => ?_)
    | refine clK_mk (a1) rfl ?_
    | refine clK_mk (a2) rfl ?_
    | simp only [go_sem, Nat.reduceBEq, Nat.reduceAdd, Nat.reduceMul, Nat.reduceSub, Nat.reduceLeDiff, Nat.reduceLT, Nat.reduceEqDiff, Int.reduceEq, Int.reduceBEq, Int.reduceBNe, Int.reduceLT, Int.reduceLE, *])
theorem qinv_d (q : Rat) (hq : qfits q) (h0 : q ≠ 0) : DCall Try.prog 124 [encQ q] (encQ q⁻¹) := by
  have n1 := num_d q
  have d1 := den_d q
  have hn : q.num ≠ 0 := fun h => h0 (Rat.num_eq_zero.1 h)
  have qu := quo_d (q.den : Int) q.num hn (by have := hq.2; unfold fits; rw [Int.natAbs_natCast]; omega) (Nat.le_trans hq.1 (by decide))
  rw [← Rat.inv_def] at qu
  refine dcall_mk orders Try.func124 rfl (by kernel_rfl) (fun d => d == 2) (by kernel_rfl) rfl (fun hs => ?_)
  clear hs hn h0
  repeat' (first
    | with_reducible refine cdK_splitN (fun h => ?_) (fun h => ?_)
    | with_reducible refine gdK_splitTN (fun h => ?_) (fun h => ?_)
    | with_reducible refine gdK_splitFN (fun h => ?_) (fun h => ?_)
    | with_reducible refine cdK_split (fun h => ?_) (fun h => ?_)
    | with_reducible refine gdK_splitT (fun h => ?_) (fun h => ?_)
    | with_reducible refine gdK_splitF (fun h => ?_) (fun h => ?_)
    | refine clK_mk (n1) rfl ?_
    | refine clK_mk (d1) rfl ?_
    | refine clK_mk (qu) rfl ?_
    | simp only [go_sem, Nat.reduceBEq, Nat.reduceAdd, Nat.reduceMul, Nat.reduceSub, Nat.reduceLeDiff, Nat.reduceLT, Nat.reduceEqDiff, Int.reduceEq, Int.reduceBEq, Int.reduceBNe, Int.reduceLT, Int.reduceLE, *])
theorem qmul_d (p q : Rat) (hp : qfits p) (hq : qfits q) : DCall Try.prog 123 [encQ p, encQ q] (encQ (p * q)) := by
  have sl := slow hp hq
  have n1 := num_d p
  have n2 := num_d q
  have d1 := den_d p
  have d2 := den_d q
  have m1 := mul_d true true p.num q.num sl.np sl.nq
  have m3 := mul_d true true (p.den : Int) (q.den : Int) sl.dp sl.dq
  have qu := quo_d _ _ (dens_ne p q) sl.m4 sl.m3
  rw [← mul_eq] at qu
  have pp := p.den_pos
  have pq := q.den_pos
  have g1 : decide ((p.den : Int) > 0) = true := decide_eq_true (by omega)
  have g2 : decide ((q.den : Int) > 0) = true := decide_eq_true (by omega)
  by_cases hsp : Whole.small p = true
  · obtain ⟨a1, a2⟩ := small_true hsp
    by_cases hsq : Whole.small q = true
    · obtain ⟨b1, b2⟩ := small_true hsq
      have t1 := times_d p.num q.num a1 b1
      have t3 := times_d (p.den : Int) (q.den : Int) (by rw [Int.natAbs_natCast]; exact a2) (by rw [Int.natAbs_natCast]; exact b2)
      have sm : (p.num * q.num).natAbs ≤ most → ((p.den : Int) * q.den).natAbs ≤ most → DCall Try.prog 144 [i64 (p.num * q.num), i64 ((p.den : Int) * q.den)] (encQ (p * q)) := fun h1 h2 => by
        rw [mul_eq]; exact ssmall_d _ _ h1 (by have := Nat.mul_pos pp pq; rw [← Int.natCast_mul]; omega) h2
      rw [← Int.natAbs_mul] at t1 t3
      unfold encQ at n1 n2 d1 d2 qu sm ⊢
      rw [ratC_small hsp] at n1 d1 ⊢
      rw [ratC_small hsq] at n2 d2 ⊢
      clear hsp hsq a1 a2 b1 b2 hp hq sl pp pq
      generalize p.num * q.num = x at *
      generalize (p.den : Int) * (q.den : Int) = z at *
      by_cases cx : x.natAbs ≤ most
      · rw [if_pos cx, decide_eq_true cx] at t1
        by_cases cz : z.natAbs ≤ most
        · rw [if_pos cz, decide_eq_true cz] at t3
          have sm' := sm cx cz
          clear sm cx cz
          refine dcall_mk orders Try.func123 rfl (by kernel_rfl) (fun d => d == 4) (by kernel_rfl) rfl (fun hs => ?_)
          repeat' (first
            | with_reducible refine cdK_splitN (fun h => ?_) (fun h => ?_)
            | with_reducible refine gdK_splitTN (fun h => ?_) (fun h => ?_)
            | with_reducible refine gdK_splitFN (fun h => ?_) (fun h => ?_)
            | with_reducible refine cdK_split (fun h => ?_) (fun h => ?_)
            | with_reducible refine gdK_splitT (fun h => ?_) (fun h => ?_)
            | with_reducible refine gdK_splitF (fun h => ?_) (fun h => ?_)
            | refine clK_mk (t1) rfl ?_
            | refine clK_mk (t3) rfl ?_
            | refine clK_mk (sm') rfl ?_
            | simp only [go_sem, Nat.reduceBEq, Nat.reduceAdd, Nat.reduceMul, Nat.reduceSub, Nat.reduceLeDiff, Nat.reduceLT, Nat.reduceEqDiff, Int.reduceEq, Int.reduceBEq, Int.reduceBNe, Int.reduceLT, Int.reduceLE, *])
        · rw [if_neg cz, decide_eq_false cz] at t3
          clear sm cx cz
          refine dcall_mk orders Try.func123 rfl (by kernel_rfl) (fun d => d == 4) (by kernel_rfl) rfl (fun hs => ?_)
          repeat' (first
            | with_reducible refine cdK_splitN (fun h => ?_) (fun h => ?_)
            | with_reducible refine gdK_splitTN (fun h => ?_) (fun h => ?_)
            | with_reducible refine gdK_splitFN (fun h => ?_) (fun h => ?_)
            | with_reducible refine cdK_split (fun h => ?_) (fun h => ?_)
            | with_reducible refine gdK_splitT (fun h => ?_) (fun h => ?_)
            | with_reducible refine gdK_splitF (fun h => ?_) (fun h => ?_)
            | refine clK_mk (t1) rfl ?_
            | refine clK_mk (t3) rfl ?_
            | refine clK_mk (n1) rfl ?_
            | refine clK_mk (n2) rfl ?_
            | refine clK_mk (d1) rfl ?_
            | refine clK_mk (d2) rfl ?_
            | refine clK_mk (m1) rfl ?_
            | refine clK_mk (m3) rfl ?_
            | refine clK_mk (qu) rfl ?_
            | simp only [go_sem, Nat.reduceBEq, Nat.reduceAdd, Nat.reduceMul, Nat.reduceSub, Nat.reduceLeDiff, Nat.reduceLT, Nat.reduceEqDiff, Int.reduceEq, Int.reduceBEq, Int.reduceBNe, Int.reduceLT, Int.reduceLE, *])
      · rw [if_neg cx, decide_eq_false cx] at t1
        clear sm cx
        generalize (if z.natAbs ≤ most then z else 0) = z1 at *
        generalize decide (z.natAbs ≤ most) = z2 at *
        refine dcall_mk orders Try.func123 rfl (by kernel_rfl) (fun d => d == 4) (by kernel_rfl) rfl (fun hs => ?_)
        repeat' (first
          | with_reducible refine cdK_splitN (fun h => ?_) (fun h => ?_)
          | with_reducible refine gdK_splitTN (fun h => ?_) (fun h => ?_)
          | with_reducible refine gdK_splitFN (fun h => ?_) (fun h => ?_)
          | with_reducible refine cdK_split (fun h => ?_) (fun h => ?_)
          | with_reducible refine gdK_splitT (fun h => ?_) (fun h => ?_)
          | with_reducible refine gdK_splitF (fun h => ?_) (fun h => ?_)
          | refine clK_mk (t1) rfl ?_
          | refine clK_mk (t3) rfl ?_
          | refine clK_mk (n1) rfl ?_
          | refine clK_mk (n2) rfl ?_
          | refine clK_mk (d1) rfl ?_
          | refine clK_mk (d2) rfl ?_
          | refine clK_mk (m1) rfl ?_
          | refine clK_mk (m3) rfl ?_
          | refine clK_mk (qu) rfl ?_
          | simp only [go_sem, Nat.reduceBEq, Nat.reduceAdd, Nat.reduceMul, Nat.reduceSub, Nat.reduceLeDiff, Nat.reduceLT, Nat.reduceEqDiff, Int.reduceEq, Int.reduceBEq, Int.reduceBNe, Int.reduceLT, Int.reduceLE, *])
    · have hsq' : Whole.small q = false := by simpa using hsq
      unfold encQ at n1 n2 d1 d2 qu ⊢
      rw [ratC_small hsp] at n1 d1 ⊢
      rw [ratC_big hsq'] at n2 d2 ⊢
      clear hsp hsq hsq' a1 a2 hp hq sl pp pq g2
      generalize p.num * q.num = x at *
      generalize (p.den : Int) * (q.den : Int) = z at *
      refine dcall_mk orders Try.func123 rfl (by kernel_rfl) (fun d => d == 4) (by kernel_rfl) rfl (fun hs => ?_)
      repeat' (first
        | with_reducible refine cdK_splitN (fun h => ?_) (fun h => ?_)
        | with_reducible refine gdK_splitTN (fun h => ?_) (fun h => ?_)
        | with_reducible refine gdK_splitFN (fun h => ?_) (fun h => ?_)
        | with_reducible refine cdK_split (fun h => ?_) (fun h => ?_)
        | with_reducible refine gdK_splitT (fun h => ?_) (fun h => ?_)
        | with_reducible refine gdK_splitF (fun h => ?_) (fun h => ?_)
        | refine clK_mk (n1) rfl ?_
        | refine clK_mk (n2) rfl ?_
        | refine clK_mk (d1) rfl ?_
        | refine clK_mk (d2) rfl ?_
        | refine clK_mk (m1) rfl ?_
        | refine clK_mk (m3) rfl ?_
        | refine clK_mk (qu) rfl ?_
        | simp only [go_sem, Nat.reduceBEq, Nat.reduceAdd, Nat.reduceMul, Nat.reduceSub, Nat.reduceLeDiff, Nat.reduceLT, Nat.reduceEqDiff, Int.reduceEq, Int.reduceBEq, Int.reduceBNe, Int.reduceLT, Int.reduceLE, *])
  · have hsp' : Whole.small p = false := by simpa using hsp
    unfold encQ at n1 n2 d1 d2 qu ⊢
    rw [ratC_big hsp'] at n1 d1 ⊢
    clear hsp hsp' hp hq sl pp pq g1 g2
    generalize p.num * q.num = x at *
    generalize (p.den : Int) * (q.den : Int) = z at *
    refine dcall_mk orders Try.func123 rfl (by kernel_rfl) (fun d => d == 4) (by kernel_rfl) rfl (fun hs => ?_)
    repeat' (first
      | with_reducible refine cdK_splitN (fun h => ?_) (fun h => ?_)
      | with_reducible refine gdK_splitTN (fun h => ?_) (fun h => ?_)
      | with_reducible refine gdK_splitFN (fun h => ?_) (fun h => ?_)
      | with_reducible refine cdK_split (fun h => ?_) (fun h => ?_)
      | with_reducible refine gdK_splitT (fun h => ?_) (fun h => ?_)
      | with_reducible refine gdK_splitF (fun h => ?_) (fun h => ?_)
      | refine clK_mk (n1) rfl ?_
      | refine clK_mk (n2) rfl ?_
      | refine clK_mk (d1) rfl ?_
      | refine clK_mk (d2) rfl ?_
      | refine clK_mk (m1) rfl ?_
      | refine clK_mk (m3) rfl ?_
      | refine clK_mk (qu) rfl ?_
      | simp only [go_sem, Nat.reduceBEq, Nat.reduceAdd, Nat.reduceMul, Nat.reduceSub, Nat.reduceLeDiff, Nat.reduceLT, Nat.reduceEqDiff, Int.reduceEq, Int.reduceBEq, Int.reduceBNe, Int.reduceLT, Int.reduceLE, *])
end Ytajgclnahfmfmaa
end Go.Vm
