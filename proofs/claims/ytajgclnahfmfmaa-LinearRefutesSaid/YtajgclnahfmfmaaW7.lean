/- Rational numbers: sums, products, comparisons. -/
import Derived.Test.YtajgclnahfmfmaaW6
set_option linter.unusedSimpArgs false
set_option maxRecDepth 10000
namespace Go.Vm
open Go Go.Proofs Go.Whole
namespace Ytajgclnahfmfmaa
open Go.Proofs.Try

theorem len_mul {a b m n : Nat} (ha : (digs a).length ≤ m) (hb : (digs b).length ≤ n) : (digs (a * b)).length ≤ m + n := digs_length_le (by
  have h1 := lt_of_digs_length ha
  have h2 := lt_of_digs_length hb
  rw [Nat.pow_add]
  exact Nat.mul_lt_mul'' h1 h2)
theorem len_add {a b n : Nat} (ha : (digs a).length ≤ n) (hb : (digs b).length ≤ n) : (digs (a + b)).length ≤ n + 1 := by
  rcases Nat.le_total a b with h | h
  · exact digs_dbl (by omega) hb
  · exact digs_dbl (b := a) (by omega) ha
theorem fits_i64 {z : Int} (h : inI64 z) : fits z := Nat.le_trans (digs_length_le (k := 2) (by rw [show B ^ 2 = 18446744073709551616 by decide]; obtain ⟨h1, h2⟩ := h; omega)) (by decide)

@[go_sem] theorem dec_zero : decide ((0 : Int) > 0) = false := by decide
attribute [go_sem] List.append_nil
theorem ratC_one (q : Rat) : ((ratC q).map PV.t).all PV.one = true := by unfold ratC; split <;> rfl
@[go_sem] theorem ratC_len (q : Rat) : (ratC q).length = 6 := ratC_length q
@[go_sem] theorem ratC_all (q : Rat) : ((ratC q).map PV.t).all PV.one = true := ratC_one q
@[go_sem] theorem ratC_take (q : Rat) : ((ratC q).map PV.t).take 6 = (ratC q).map PV.t := List.take_of_length_le (by simp [ratC_length])
@[go_sem] theorem ratC_take' (q : Rat) : (ratC q).take 6 = ratC q := List.take_of_length_le (by simp [ratC_length])
attribute [go_sem] encQ
theorem divInt_one (n : Int) : Rat.divInt n 1 = (n : Rat) := by
  have := Rat.divInt_ofNat n 1
  rw [show ((1 : Nat) : Int) = 1 from rfl] at this
  rw [this]
  exact Rat.ext (by rw [Rat.num_mkRat]; simp) (by rw [Rat.den_mkRat]; simp)
theorem whole_d (n : Int) (h : inI64 n) : DCall Try.prog 118 [i64 n] (encQ n) := by
  have h1 := of_d n h
  have h2 := of_d 1 ⟨by decide, by decide⟩
  have h3 := quo_d n 1 (by decide) (fits_i64 h) (fits_i64 ⟨by decide, by decide⟩)
  rw [divInt_one] at h3
  refine dcall_mk orders Try.func118 rfl (by kernel_rfl) (fun d => d == 2) (by kernel_rfl) rfl (fun hs => ?_)
  clear hs
  repeat' (first
    | with_reducible refine cdK_splitN (fun h => ?_) (fun h => ?_)
    | with_reducible refine gdK_splitTN (fun h => ?_) (fun h => ?_)
    | with_reducible refine gdK_splitFN (fun h => ?_) (fun h => ?_)
    | with_reducible refine cdK_split (fun h => ?_) (fun h => ?_)
    | with_reducible refine gdK_splitT (fun h => ?_) (fun h => ?_)
    | with_reducible refine gdK_splitF (fun h => ?_) (fun h => ?_)
    | refine clK_mk (h1) rfl ?_
    | refine clK_mk (h2) rfl ?_
    | refine clK_mk (h3) rfl ?_
    | simp only [go_sem, Nat.reduceBEq, Nat.reduceAdd, Nat.reduceMul, Nat.reduceSub, Nat.reduceLeDiff, Nat.reduceLT, Nat.reduceEqDiff, Int.reduceEq, Int.reduceBEq, Int.reduceBNe, Int.reduceLT, Int.reduceLE, *])
theorem num_d (q : Rat) : DCall Try.prog 125 [encQ q] (encI true q.num) := by
  unfold encQ
  by_cases hs : Whole.small q = true
  · obtain ⟨h1, h2⟩ := small_true hs
    rw [most_eq] at h1
    have o := of_d q.num ⟨by omega, by omega⟩
    have hp := q.den_pos
    have g : decide ((q.den : Int) > 0) = true := decide_eq_true (by omega)
    rw [ratC_small hs]
    refine dcall_mk orders Try.func125 rfl (by kernel_rfl) (fun d => d == 2) (by kernel_rfl) rfl (fun hs => ?_)
    clear hs h1 h2
    repeat' (first
      | with_reducible refine cdK_splitN (fun h => ?_) (fun h => ?_)
      | with_reducible refine gdK_splitTN (fun h => ?_) (fun h => ?_)
      | with_reducible refine gdK_splitFN (fun h => ?_) (fun h => ?_)
      | with_reducible refine cdK_split (fun h => ?_) (fun h => ?_)
      | with_reducible refine gdK_splitT (fun h => ?_) (fun h => ?_)
      | with_reducible refine gdK_splitF (fun h => ?_) (fun h => ?_)
      | refine clK_mk (o) rfl ?_
      | simp only [go_sem, Nat.reduceBEq, Nat.reduceAdd, Nat.reduceMul, Nat.reduceSub, Nat.reduceLeDiff, Nat.reduceLT, Nat.reduceEqDiff, Int.reduceEq, Int.reduceBEq, Int.reduceBNe, Int.reduceLT, Int.reduceLE, *])
  · rw [ratC_big (by simpa using hs)]
    refine dcall_mk orders Try.func125 rfl (by kernel_rfl) (fun d => d == 2) (by kernel_rfl) rfl (fun hs => ?_)
    clear hs
    repeat' (first
      | with_reducible refine cdK_splitN (fun h => ?_) (fun h => ?_)
      | with_reducible refine gdK_splitTN (fun h => ?_) (fun h => ?_)
      | with_reducible refine gdK_splitFN (fun h => ?_) (fun h => ?_)
      | with_reducible refine cdK_split (fun h => ?_) (fun h => ?_)
      | with_reducible refine gdK_splitT (fun h => ?_) (fun h => ?_)
      | with_reducible refine gdK_splitF (fun h => ?_) (fun h => ?_)
      | simp only [go_sem, Nat.reduceBEq, Nat.reduceAdd, Nat.reduceMul, Nat.reduceSub, Nat.reduceLeDiff, Nat.reduceLT, Nat.reduceEqDiff, Int.reduceEq, Int.reduceBEq, Int.reduceBNe, Int.reduceLT, Int.reduceLE, *])
theorem den_d (q : Rat) : DCall Try.prog 126 [encQ q] (encI true (q.den : Int)) := by
  unfold encQ
  by_cases hs : Whole.small q = true
  · obtain ⟨h1, h2⟩ := small_true hs
    rw [most_eq] at h2
    have o := of_d (q.den : Int) ⟨by omega, by omega⟩
    have hp := q.den_pos
    have g : decide ((q.den : Int) > 0) = true := decide_eq_true (by omega)
    rw [ratC_small hs]
    refine dcall_mk orders Try.func126 rfl (by kernel_rfl) (fun d => d == 2) (by kernel_rfl) rfl (fun hs => ?_)
    clear hs h1 h2
    repeat' (first
      | with_reducible refine cdK_splitN (fun h => ?_) (fun h => ?_)
      | with_reducible refine gdK_splitTN (fun h => ?_) (fun h => ?_)
      | with_reducible refine gdK_splitFN (fun h => ?_) (fun h => ?_)
      | with_reducible refine cdK_split (fun h => ?_) (fun h => ?_)
      | with_reducible refine gdK_splitT (fun h => ?_) (fun h => ?_)
      | with_reducible refine gdK_splitF (fun h => ?_) (fun h => ?_)
      | refine clK_mk (o) rfl ?_
      | simp only [go_sem, Nat.reduceBEq, Nat.reduceAdd, Nat.reduceMul, Nat.reduceSub, Nat.reduceLeDiff, Nat.reduceLT, Nat.reduceEqDiff, Int.reduceEq, Int.reduceBEq, Int.reduceBNe, Int.reduceLT, Int.reduceLE, *])
  · rw [ratC_big (by simpa using hs)]
    have e1 : ((q.den : Int)).natAbs = q.den := Int.natAbs_natCast _
    have e2 : decide ((q.den : Int) < 0) = false := decide_eq_false (by omega)
    refine dcall_mk orders Try.func126 rfl (by kernel_rfl) (fun d => d == 2) (by kernel_rfl) rfl (fun hs => ?_)
    clear hs
    repeat' (first
      | with_reducible refine cdK_splitN (fun h => ?_) (fun h => ?_)
      | with_reducible refine gdK_splitTN (fun h => ?_) (fun h => ?_)
      | with_reducible refine gdK_splitFN (fun h => ?_) (fun h => ?_)
      | with_reducible refine cdK_split (fun h => ?_) (fun h => ?_)
      | with_reducible refine gdK_splitT (fun h => ?_) (fun h => ?_)
      | with_reducible refine gdK_splitF (fun h => ?_) (fun h => ?_)
      | simp only [go_sem, Nat.reduceBEq, Nat.reduceAdd, Nat.reduceMul, Nat.reduceSub, Nat.reduceLeDiff, Nat.reduceLT, Nat.reduceEqDiff, Int.reduceEq, Int.reduceBEq, Int.reduceBNe, Int.reduceLT, Int.reduceLE, *])
theorem qsign_d (q : Rat) : DCall Try.prog 93 [encQ q] (i64 q.num.sign) := by
  unfold encQ
  by_cases hs : Whole.small q = true
  · have hp := q.den_pos
    have g : ((q.den : Int) == 0) = false := by simp; omega
    rw [ratC_small hs]
    clear hs
    rcases Int.lt_trichotomy q.num 0 with h | h | h
    · rw [Int.sign_eq_neg_one_of_neg h]
      have g1 : decide (q.num < 0) = true := decide_eq_true h
      clear h
      refine dcall_mk orders Try.func93 rfl (by kernel_rfl) noMu (by kernel_rfl) rfl (fun hs => ?_)
      repeat' (first
        | with_reducible refine cdK_splitN (fun h => ?_) (fun h => ?_)
        | with_reducible refine gdK_splitTN (fun h => ?_) (fun h => ?_)
        | with_reducible refine gdK_splitFN (fun h => ?_) (fun h => ?_)
        | with_reducible refine cdK_split (fun h => ?_) (fun h => ?_)
        | with_reducible refine gdK_splitT (fun h => ?_) (fun h => ?_)
        | with_reducible refine gdK_splitF (fun h => ?_) (fun h => ?_)
        | simp only [go_sem, Nat.reduceBEq, Nat.reduceAdd, Nat.reduceMul, Nat.reduceSub, Nat.reduceLeDiff, Nat.reduceLT, Nat.reduceEqDiff, Int.reduceEq, Int.reduceBEq, Int.reduceBNe, Int.reduceLT, Int.reduceLE, *])
    · rw [h]
      refine dcall_mk orders Try.func93 rfl (by kernel_rfl) noMu (by kernel_rfl) rfl (fun hs => ?_)
      have g1 : decide ((0 : Int) < 0) = false := rfl
      have g2 : decide ((0 : Int) > 0) = false := rfl
      repeat' (first
        | with_reducible refine cdK_splitN (fun h => ?_) (fun h => ?_)
        | with_reducible refine gdK_splitTN (fun h => ?_) (fun h => ?_)
        | with_reducible refine gdK_splitFN (fun h => ?_) (fun h => ?_)
        | with_reducible refine cdK_split (fun h => ?_) (fun h => ?_)
        | with_reducible refine gdK_splitT (fun h => ?_) (fun h => ?_)
        | with_reducible refine gdK_splitF (fun h => ?_) (fun h => ?_)
        | simp only [go_sem, Nat.reduceBEq, Nat.reduceAdd, Nat.reduceMul, Nat.reduceSub, Nat.reduceLeDiff, Nat.reduceLT, Nat.reduceEqDiff, Int.reduceEq, Int.reduceBEq, Int.reduceBNe, Int.reduceLT, Int.reduceLE, *])
      all_goals rfl
    · rw [Int.sign_eq_one_of_pos h]
      have g1 : decide (q.num < 0) = false := decide_eq_false (by omega)
      have g2 : decide (q.num > 0) = true := decide_eq_true h
      clear h
      refine dcall_mk orders Try.func93 rfl (by kernel_rfl) noMu (by kernel_rfl) rfl (fun hs => ?_)
      repeat' (first
        | with_reducible refine cdK_splitN (fun h => ?_) (fun h => ?_)
        | with_reducible refine gdK_splitTN (fun h => ?_) (fun h => ?_)
        | with_reducible refine gdK_splitFN (fun h => ?_) (fun h => ?_)
        | with_reducible refine cdK_split (fun h => ?_) (fun h => ?_)
        | with_reducible refine gdK_splitT (fun h => ?_) (fun h => ?_)
        | with_reducible refine gdK_splitF (fun h => ?_) (fun h => ?_)
        | simp only [go_sem, Nat.reduceBEq, Nat.reduceAdd, Nat.reduceMul, Nat.reduceSub, Nat.reduceLeDiff, Nat.reduceLT, Nat.reduceEqDiff, Int.reduceEq, Int.reduceBEq, Int.reduceBNe, Int.reduceLT, Int.reduceLE, *])
  · rw [ratC_big (by simpa using hs)]
    have sg := sign_d true q.num
    refine dcall_mk orders Try.func93 rfl (by kernel_rfl) noMu (by kernel_rfl) rfl (fun hs => ?_)
    clear hs
    repeat' (first
      | with_reducible refine cdK_splitN (fun h => ?_) (fun h => ?_)
      | with_reducible refine gdK_splitTN (fun h => ?_) (fun h => ?_)
      | with_reducible refine gdK_splitFN (fun h => ?_) (fun h => ?_)
      | with_reducible refine cdK_split (fun h => ?_) (fun h => ?_)
      | with_reducible refine gdK_splitT (fun h => ?_) (fun h => ?_)
      | with_reducible refine gdK_splitF (fun h => ?_) (fun h => ?_)
      | refine clK_mk (sg) rfl ?_
      | simp only [go_sem, Nat.reduceBEq, Nat.reduceAdd, Nat.reduceMul, Nat.reduceSub, Nat.reduceLeDiff, Nat.reduceLT, Nat.reduceEqDiff, Int.reduceEq, Int.reduceBEq, Int.reduceBNe, Int.reduceLT, Int.reduceLE, *])
theorem qneg_d (q : Rat) : DCall Try.prog 120 [encQ q] (encQ (-q)) := by
  unfold encQ
  have e1 : (-q).num = -q.num := Rat.neg_num q
  have e2 : (-q).den = q.den := Rat.neg_den q
  have e3 : (-q.num).natAbs = q.num.natAbs := by omega
  have hsm : Whole.small (-q) = Whole.small q := by simp only [Whole.small, e1, e2, e3]
  by_cases hs : Whole.small q = true
  · obtain ⟨h1, h2⟩ := small_true hs
    rw [most_eq] at h1
    have hp := q.den_pos
    have g : decide ((q.den : Int) > 0) = true := decide_eq_true (by omega)
    have g2 : IntKind.i64.wrap (0 - q.num) = -q.num := by rw [show 0 - q.num = -q.num by omega]; exact wrap_i64 (by omega) (by omega)
    rw [ratC_small hs, ratC_small (hsm.trans hs), e1, e2]
    clear hs hsm h1 h2 e1 e2 e3 hp
    refine dcall_mk orders Try.func120 rfl (by kernel_rfl) (fun d => d == 2) (by kernel_rfl) rfl (fun hs => ?_)
    repeat' (first
      | with_reducible refine cdK_splitN (fun h => ?_) (fun h => ?_)
      | with_reducible refine gdK_splitTN (fun h => ?_) (fun h => ?_)
      | with_reducible refine gdK_splitFN (fun h => ?_) (fun h => ?_)
      | with_reducible refine cdK_split (fun h => ?_) (fun h => ?_)
      | with_reducible refine gdK_splitT (fun h => ?_) (fun h => ?_)
      | with_reducible refine gdK_splitF (fun h => ?_) (fun h => ?_)
      | simp only [go_sem, Nat.reduceBEq, Nat.reduceAdd, Nat.reduceMul, Nat.reduceSub, Nat.reduceLeDiff, Nat.reduceLT, Nat.reduceEqDiff, Int.reduceEq, Int.reduceBEq, Int.reduceBNe, Int.reduceLT, Int.reduceLE, *])
  · have hs' : Whole.small q = false := by simpa using hs
    have n1 := neg_d true q.num
    rw [ratC_big hs', ratC_big (hsm.trans hs'), e1, e2]
    clear hs hsm hs' e1 e2
    refine dcall_mk orders Try.func120 rfl (by kernel_rfl) (fun d => d == 2) (by kernel_rfl) rfl (fun hs => ?_)
    repeat' (first
      | with_reducible refine cdK_splitN (fun h => ?_) (fun h => ?_)
      | with_reducible refine gdK_splitTN (fun h => ?_) (fun h => ?_)
      | with_reducible refine gdK_splitFN (fun h => ?_) (fun h => ?_)
      | with_reducible refine cdK_split (fun h => ?_) (fun h => ?_)
      | with_reducible refine gdK_splitT (fun h => ?_) (fun h => ?_)
      | with_reducible refine gdK_splitF (fun h => ?_) (fun h => ?_)
      | refine clK_mk (n1) rfl ?_
      | simp only [go_sem, Nat.reduceBEq, Nat.reduceAdd, Nat.reduceMul, Nat.reduceSub, Nat.reduceLeDiff, Nat.reduceLT, Nat.reduceEqDiff, Int.reduceEq, Int.reduceBEq, Int.reduceBNe, Int.reduceLT, Int.reduceLE, *])

theorem add_eq (p q : Rat) : p + q = Rat.divInt (p.num * q.den + q.num * p.den) ((p.den : Int) * q.den) := by
  rw [Rat.add_def', ← Rat.divInt_ofNat, Int.natCast_mul]
theorem mul_eq (p q : Rat) : p * q = Rat.divInt (p.num * q.num) ((p.den : Int) * q.den) := by
  rw [Rat.mul_def', ← Rat.divInt_ofNat, Int.natCast_mul]
theorem natAbs_le_of {a b : Nat} (h : a * b ≤ most) : ((a : Int) * b).natAbs ≤ most := by rw [← Int.natCast_mul, Int.natAbs_natCast]; exact h
/-- the slow way of a sum -/
structure Slow (p q : Rat) : Prop where
  m1 : fits (p.num * q.den)
  m2 : fits (q.num * p.den)
  m3 : fits ((p.den : Int) * q.den)
  s : fits (p.num * q.den + q.num * p.den)
  np : fits p.num
  nq : fits q.num
  dp : fits (p.den : Int)
  dq : fits (q.den : Int)
  m4 : fits (p.num * q.num)
theorem slow {p q : Rat} (hp : qfits p) (hq : qfits q) : Slow p q := by
  obtain ⟨h1, h2⟩ := hp
  obtain ⟨h3, h4⟩ := hq
  have a1 := len_mul h1 h4
  have a2 := len_mul h3 h2
  have a3 := len_mul h2 h4
  have a4 := len_mul h1 h3
  have e1 : (p.num * q.den).natAbs = p.num.natAbs * q.den := by rw [Int.natAbs_mul, Int.natAbs_natCast]
  have e2 : (q.num * p.den).natAbs = q.num.natAbs * p.den := by rw [Int.natAbs_mul, Int.natAbs_natCast]
  have e3 : ((p.den : Int) * q.den).natAbs = p.den * q.den := by rw [Int.natAbs_mul, Int.natAbs_natCast, Int.natAbs_natCast]
  have e4 : (p.num * q.num).natAbs = p.num.natAbs * q.num.natAbs := Int.natAbs_mul _ _
  have a5 := len_add a1 a2
  refine ⟨?_, ?_, ?_, ?_, Nat.le_trans h1 (by decide), Nat.le_trans h3 (by decide), ?_, ?_, ?_⟩
  · unfold fits; rw [e1]; omega
  · unfold fits; rw [e2]; omega
  · unfold fits; rw [e3]; omega
  · unfold fits
    have := digs_length_mono (a := (p.num * q.den + q.num * p.den).natAbs) (b := p.num.natAbs * q.den + q.num.natAbs * p.den) (by rw [← e1, ← e2]; omega)
    omega
  · unfold fits; rw [Int.natAbs_natCast]; omega
  · unfold fits; rw [Int.natAbs_natCast]; omega
  · unfold fits; rw [e4]; omega
theorem dens_ne (p q : Rat) : (p.den : Int) * q.den ≠ 0 := by
  have h1 := p.den_pos
  have h2 := q.den_pos
  have := Nat.mul_pos h1 h2
  rw [← Int.natCast_mul]; omega

theorem qadd_d (p q : Rat) (hp : qfits p) (hq : qfits q) : DCall Try.prog 139 [encQ p, encQ q] (encQ (p + q)) := by
  have sl := slow hp hq
  have n1 := num_d p
  have n2 := num_d q
  have d1 := den_d p
  have d2 := den_d q
  have m1 := mul_d true true p.num (q.den : Int) sl.np sl.dq
  have m2 := mul_d true true q.num (p.den : Int) sl.nq sl.dp
  have m3 := mul_d true true (p.den : Int) (q.den : Int) sl.dp sl.dq
  have ad := add_d true true _ _ sl.m1 sl.m2
  have qu := quo_d _ _ (dens_ne p q) sl.s sl.m3
  rw [← add_eq] at qu
  have pp := p.den_pos
  have pq := q.den_pos
  have g1 : decide ((p.den : Int) > 0) = true := decide_eq_true (by omega)
  have g2 : decide ((q.den : Int) > 0) = true := decide_eq_true (by omega)
  -- the ways
  by_cases hsp : Whole.small p = true
  · obtain ⟨a1, a2⟩ := small_true hsp
    by_cases hsq : Whole.small q = true
    · obtain ⟨b1, b2⟩ := small_true hsq
      have t1 := times_d p.num (q.den : Int) a1 (by rw [Int.natAbs_natCast]; exact b2)
      have t2 := times_d q.num (p.den : Int) b1 (by rw [Int.natAbs_natCast]; exact a2)
      have t3 := times_d (p.den : Int) (q.den : Int) (by rw [Int.natAbs_natCast]; exact a2) (by rw [Int.natAbs_natCast]; exact b2)
      have sm : (p.num * q.den + q.num * p.den).natAbs ≤ most → ((p.den : Int) * q.den).natAbs ≤ most → DCall Try.prog 144 [i64 (p.num * q.den + q.num * p.den), i64 ((p.den : Int) * q.den)] (encQ (p + q)) := fun h1 h2 => by
        rw [add_eq]; exact ssmall_d _ _ h1 (by have := Nat.mul_pos pp pq; rw [← Int.natCast_mul]; omega) h2
      rw [← Int.natAbs_mul] at t1 t2 t3
      unfold encQ at n1 n2 d1 d2
      rw [ratC_small hsp] at n1 d1
      rw [ratC_small hsq] at n2 d2
      have hgoal : ∀ R : Tr, R = encQ (p + q) → DCall Try.prog 139 [.agg [.int .i64 p.num, .int .i64 p.den, .sl false [], .bool false, .sl false [], .bool false], .agg [.int .i64 q.num, .int .i64 q.den, .sl false [], .bool false, .sl false [], .bool false]] R := by
        intro R hR
        subst hR
        clear hsp hsq a1 a2 b1 b2 hp hq sl pp pq
        generalize p.num * (q.den : Int) = x at *
        generalize q.num * (p.den : Int) = y at *
        generalize (p.den : Int) * (q.den : Int) = z at *
        by_cases cx : x.natAbs ≤ most
        · rw [if_pos cx, decide_eq_true cx] at t1
          by_cases cy : y.natAbs ≤ most
          · rw [if_pos cy, decide_eq_true cy] at t2
            have w : IntKind.i64.wrap (x + y) = x + y := wrap_i64 (by rw [most_eq] at cx cy; omega) (by rw [most_eq] at cx cy; omega)
            by_cases cz : z.natAbs ≤ most
            · rw [if_pos cz, decide_eq_true cz] at t3
              by_cases cl : x + y ≥ -4611686018427387903
              · have v1 : decide (x + y ≥ -4611686018427387903) = true := decide_eq_true cl
                by_cases ch : x + y ≤ 4611686018427387903
                · have v2 : decide (x + y ≤ 4611686018427387903) = true := decide_eq_true ch
                  have sm' := sm (by rw [most_eq]; omega) cz
                  clear sm cx cy cz cl ch
                  refine dcall_mk orders Try.func139 rfl (by kernel_rfl) (fun d => d == 4) (by kernel_rfl) rfl (fun hs => ?_)
                  repeat' (first
                    | with_reducible refine cdK_splitN (fun h => ?_) (fun h => ?_)
                    | with_reducible refine gdK_splitTN (fun h => ?_) (fun h => ?_)
                    | with_reducible refine gdK_splitFN (fun h => ?_) (fun h => ?_)
                    | with_reducible refine cdK_split (fun h => ?_) (fun h => ?_)
                    | with_reducible refine gdK_splitT (fun h => ?_) (fun h => ?_)
                    | with_reducible refine gdK_splitF (fun h => ?_) (fun h => ?_)
                    | refine clK_mk (t1) rfl ?_
                    | refine clK_mk (t2) rfl ?_
                    | refine clK_mk (t3) rfl ?_
                    | refine clK_mk (sm') rfl ?_
                    | simp only [go_sem, Nat.reduceBEq, Nat.reduceAdd, Nat.reduceMul, Nat.reduceSub, Nat.reduceLeDiff, Nat.reduceLT, Nat.reduceEqDiff, Int.reduceEq, Int.reduceBEq, Int.reduceBNe, Int.reduceLT, Int.reduceLE, *])
                · have v2 : decide (x + y ≤ 4611686018427387903) = false := decide_eq_false ch
                  clear sm cx cy cz cl ch
                  refine dcall_mk orders Try.func139 rfl (by kernel_rfl) (fun d => d == 4) (by kernel_rfl) rfl (fun hs => ?_)
                  repeat' (first
                    | with_reducible refine cdK_splitN (fun h => ?_) (fun h => ?_)
                    | with_reducible refine gdK_splitTN (fun h => ?_) (fun h => ?_)
                    | with_reducible refine gdK_splitFN (fun h => ?_) (fun h => ?_)
                    | with_reducible refine cdK_split (fun h => ?_) (fun h => ?_)
                    | with_reducible refine gdK_splitT (fun h => ?_) (fun h => ?_)
                    | with_reducible refine gdK_splitF (fun h => ?_) (fun h => ?_)
                    | refine clK_mk (t1) rfl ?_
                    | refine clK_mk (t2) rfl ?_
                    | refine clK_mk (t3) rfl ?_
                    | refine clK_mk (n1) rfl ?_
                    | refine clK_mk (n2) rfl ?_
                    | refine clK_mk (d1) rfl ?_
                    | refine clK_mk (d2) rfl ?_
                    | refine clK_mk (m1) rfl ?_
                    | refine clK_mk (m2) rfl ?_
                    | refine clK_mk (m3) rfl ?_
                    | refine clK_mk (ad) rfl ?_
                    | refine clK_mk (qu) rfl ?_
                    | simp only [go_sem, Nat.reduceBEq, Nat.reduceAdd, Nat.reduceMul, Nat.reduceSub, Nat.reduceLeDiff, Nat.reduceLT, Nat.reduceEqDiff, Int.reduceEq, Int.reduceBEq, Int.reduceBNe, Int.reduceLT, Int.reduceLE, *])
              · have v1 : decide (x + y ≥ -4611686018427387903) = false := decide_eq_false cl
                clear sm cx cy cz cl
                refine dcall_mk orders Try.func139 rfl (by kernel_rfl) (fun d => d == 4) (by kernel_rfl) rfl (fun hs => ?_)
                repeat' (first
                  | with_reducible refine cdK_splitN (fun h => ?_) (fun h => ?_)
                  | with_reducible refine gdK_splitTN (fun h => ?_) (fun h => ?_)
                  | with_reducible refine gdK_splitFN (fun h => ?_) (fun h => ?_)
                  | with_reducible refine cdK_split (fun h => ?_) (fun h => ?_)
                  | with_reducible refine gdK_splitT (fun h => ?_) (fun h => ?_)
                  | with_reducible refine gdK_splitF (fun h => ?_) (fun h => ?_)
                  | refine clK_mk (t1) rfl ?_
                  | refine clK_mk (t2) rfl ?_
                  | refine clK_mk (t3) rfl ?_
                  | refine clK_mk (n1) rfl ?_
                  | refine clK_mk (n2) rfl ?_
                  | refine clK_mk (d1) rfl ?_
                  | refine clK_mk (d2) rfl ?_
                  | refine clK_mk (m1) rfl ?_
                  | refine clK_mk (m2) rfl ?_
                  | refine clK_mk (m3) rfl ?_
                  | refine clK_mk (ad) rfl ?_
                  | refine clK_mk (qu) rfl ?_
                  | simp only [go_sem, Nat.reduceBEq, Nat.reduceAdd, Nat.reduceMul, Nat.reduceSub, Nat.reduceLeDiff, Nat.reduceLT, Nat.reduceEqDiff, Int.reduceEq, Int.reduceBEq, Int.reduceBNe, Int.reduceLT, Int.reduceLE, *])
            · rw [if_neg cz, decide_eq_false cz] at t3
              clear sm cx cy cz
              refine dcall_mk orders Try.func139 rfl (by kernel_rfl) (fun d => d == 4) (by kernel_rfl) rfl (fun hs => ?_)
              repeat' (first
                | with_reducible refine cdK_splitN (fun h => ?_) (fun h => ?_)
                | with_reducible refine gdK_splitTN (fun h => ?_) (fun h => ?_)
                | with_reducible refine gdK_splitFN (fun h => ?_) (fun h => ?_)
                | with_reducible refine cdK_split (fun h => ?_) (fun h => ?_)
                | with_reducible refine gdK_splitT (fun h => ?_) (fun h => ?_)
                | with_reducible refine gdK_splitF (fun h => ?_) (fun h => ?_)
                | refine clK_mk (t1) rfl ?_
                | refine clK_mk (t2) rfl ?_
                | refine clK_mk (t3) rfl ?_
                | refine clK_mk (n1) rfl ?_
                | refine clK_mk (n2) rfl ?_
                | refine clK_mk (d1) rfl ?_
                | refine clK_mk (d2) rfl ?_
                | refine clK_mk (m1) rfl ?_
                | refine clK_mk (m2) rfl ?_
                | refine clK_mk (m3) rfl ?_
                | refine clK_mk (ad) rfl ?_
                | refine clK_mk (qu) rfl ?_
                | simp only [go_sem, Nat.reduceBEq, Nat.reduceAdd, Nat.reduceMul, Nat.reduceSub, Nat.reduceLeDiff, Nat.reduceLT, Nat.reduceEqDiff, Int.reduceEq, Int.reduceBEq, Int.reduceBNe, Int.reduceLT, Int.reduceLE, *])
          · rw [if_neg cy, decide_eq_false cy] at t2
            clear sm cx cy
            generalize (if z.natAbs ≤ most then z else 0) = z1 at *
            generalize decide (z.natAbs ≤ most) = z2 at *
            refine dcall_mk orders Try.func139 rfl (by kernel_rfl) (fun d => d == 4) (by kernel_rfl) rfl (fun hs => ?_)
            repeat' (first
              | with_reducible refine cdK_splitN (fun h => ?_) (fun h => ?_)
              | with_reducible refine gdK_splitTN (fun h => ?_) (fun h => ?_)
              | with_reducible refine gdK_splitFN (fun h => ?_) (fun h => ?_)
              | with_reducible refine cdK_split (fun h => ?_) (fun h => ?_)
              | with_reducible refine gdK_splitT (fun h => ?_) (fun h => ?_)
              | with_reducible refine gdK_splitF (fun h => ?_) (fun h => ?_)
              | refine clK_mk (t1) rfl ?_
              | refine clK_mk (t2) rfl ?_
              | refine clK_mk (t3) rfl ?_
              | refine clK_mk (n1) rfl ?_
              | refine clK_mk (n2) rfl ?_
              | refine clK_mk (d1) rfl ?_
              | refine clK_mk (d2) rfl ?_
              | refine clK_mk (m1) rfl ?_
              | refine clK_mk (m2) rfl ?_
              | refine clK_mk (m3) rfl ?_
              | refine clK_mk (ad) rfl ?_
              | refine clK_mk (qu) rfl ?_
              | simp only [go_sem, Nat.reduceBEq, Nat.reduceAdd, Nat.reduceMul, Nat.reduceSub, Nat.reduceLeDiff, Nat.reduceLT, Nat.reduceEqDiff, Int.reduceEq, Int.reduceBEq, Int.reduceBNe, Int.reduceLT, Int.reduceLE, *])
        · rw [if_neg cx, decide_eq_false cx] at t1
          clear sm cx
          generalize (if z.natAbs ≤ most then z else 0) = z1 at *
          generalize decide (z.natAbs ≤ most) = z2 at *
          generalize (if y.natAbs ≤ most then y else 0) = y1 at *
          generalize decide (y.natAbs ≤ most) = y2 at *
          refine dcall_mk orders Try.func139 rfl (by kernel_rfl) (fun d => d == 4) (by kernel_rfl) rfl (fun hs => ?_)
          repeat' (first
            | with_reducible refine cdK_splitN (fun h => ?_) (fun h => ?_)
            | with_reducible refine gdK_splitTN (fun h => ?_) (fun h => ?_)
            | with_reducible refine gdK_splitFN (fun h => ?_) (fun h => ?_)
            | with_reducible refine cdK_split (fun h => ?_) (fun h => ?_)
            | with_reducible refine gdK_splitT (fun h => ?_) (fun h => ?_)
            | with_reducible refine gdK_splitF (fun h => ?_) (fun h => ?_)
            | refine clK_mk (t1) rfl ?_
            | refine clK_mk (t2) rfl ?_
            | refine clK_mk (t3) rfl ?_
            | refine clK_mk (n1) rfl ?_
            | refine clK_mk (n2) rfl ?_
            | refine clK_mk (d1) rfl ?_
            | refine clK_mk (d2) rfl ?_
            | refine clK_mk (m1) rfl ?_
            | refine clK_mk (m2) rfl ?_
            | refine clK_mk (m3) rfl ?_
            | refine clK_mk (ad) rfl ?_
            | refine clK_mk (qu) rfl ?_
            | simp only [go_sem, Nat.reduceBEq, Nat.reduceAdd, Nat.reduceMul, Nat.reduceSub, Nat.reduceLeDiff, Nat.reduceLT, Nat.reduceEqDiff, Int.reduceEq, Int.reduceBEq, Int.reduceBNe, Int.reduceLT, Int.reduceLE, *])
      have := hgoal _ rfl
      unfold encQ at this ⊢
      rw [ratC_small hsp, ratC_small hsq]
      exact this
    · have hsq' : Whole.small q = false := by simpa using hsq
      unfold encQ at n1 n2 d1 d2 qu ⊢
      rw [ratC_small hsp] at n1 d1 ⊢
      rw [ratC_big hsq'] at n2 d2 ⊢
      clear hsp hsq hsq' a1 a2 hp hq sl pp pq
      generalize p.num * (q.den : Int) = x at *
      generalize q.num * (p.den : Int) = y at *
      generalize (p.den : Int) * (q.den : Int) = z at *
      clear g2
      refine dcall_mk orders Try.func139 rfl (by kernel_rfl) (fun d => d == 4) (by kernel_rfl) rfl (fun hs => ?_)
      repeat' (first
        | with_reducible refine cdK_splitN (fun h => ?_) (fun h => ?_)
        | with_reducible refine gdK_splitTN (fun h => ?_) (fun h => ?_)
        | with_reducible refine gdK_splitFN (fun h => ?_) (fun h => ?_)
        | with_reducible refine cdK_split (fun h => ?_) (fun h => ?_)
        | with_reducible refine gdK_splitT (fun h => ?_) (fun h => ?_)
        | with_reducible refine gdK_splitF (fun h => ?_) (fun h => ?_)
        | refine clK_mk (n1) rfl ?_
        | refine clK_mk (n2) rfl ?_
        | refine clK_mk (d1) rfl ?_
        | refine clK_mk (d2) rfl ?_
        | refine clK_mk (m1) rfl ?_
        | refine clK_mk (m2) rfl ?_
        | refine clK_mk (m3) rfl ?_
        | refine clK_mk (ad) rfl ?_
        | refine clK_mk (qu) rfl ?_
        | simp only [go_sem, Nat.reduceBEq, Nat.reduceAdd, Nat.reduceMul, Nat.reduceSub, Nat.reduceLeDiff, Nat.reduceLT, Nat.reduceEqDiff, Int.reduceEq, Int.reduceBEq, Int.reduceBNe, Int.reduceLT, Int.reduceLE, *])
  · have hsp' : Whole.small p = false := by simpa using hsp
    unfold encQ at n1 n2 d1 d2 qu ⊢
    rw [ratC_big hsp'] at n1 d1 ⊢
    clear hsp hsp' hp hq sl pp pq
    generalize p.num * (q.den : Int) = x at *
    generalize q.num * (p.den : Int) = y at *
    generalize (p.den : Int) * (q.den : Int) = z at *
    clear g1 g2
    refine dcall_mk orders Try.func139 rfl (by kernel_rfl) (fun d => d == 4) (by kernel_rfl) rfl (fun hs => ?_)
    repeat' (first
      | with_reducible refine cdK_splitN (fun h => ?_) (fun h => ?_)
      | with_reducible refine gdK_splitTN (fun h => ?_) (fun h => ?_)
      | with_reducible refine gdK_splitFN (fun h => ?_) (fun h => ?_)
      | with_reducible refine cdK_split (fun h => ?_) (fun h => ?_)
      | with_reducible refine gdK_splitT (fun h => ?_) (fun h => ?_)
      | with_reducible refine gdK_splitF (fun h => ?_) (fun h => ?_)
      | refine clK_mk (n1) rfl ?_
      | refine clK_mk (n2) rfl ?_
      | refine clK_mk (d1) rfl ?_
      | refine clK_mk (d2) rfl ?_
      | refine clK_mk (m1) rfl ?_
      | refine clK_mk (m2) rfl ?_
      | refine clK_mk (m3) rfl ?_
      | refine clK_mk (ad) rfl ?_
      | refine clK_mk (qu) rfl ?_
      | simp only [go_sem, Nat.reduceBEq, Nat.reduceAdd, Nat.reduceMul, Nat.reduceSub, Nat.reduceLeDiff, Nat.reduceLT, Nat.reduceEqDiff, Int.reduceEq, Int.reduceBEq, Int.reduceBNe, Int.reduceLT, Int.reduceLE, *])
end Ytajgclnahfmfmaa
end Go.Vm
