/- Rational numbers: what the program's functions compute, in numbers. -/
import Derived.Test.YtajgclnahfmfmaaW5
set_option linter.unusedSimpArgs false
set_option maxRecDepth 10000
namespace Go.Vm
open Go Go.Proofs Go.Whole
namespace Ytajgclnahfmfmaa
open Go.Proofs.Try

attribute [go_sem] Try.results143 Try.results151 Try.results152 Try.results144 Try.results150 Try.results138 Try.results118 Try.results125 Try.results126 Try.results93 Try.results120 Try.results139 Try.results119 Try.results123 Try.results124 Try.results137 Try.results121
abbrev tRat : TypeId := 135

theorem size_d (a : Int) (h : inI64 a) : DCall Try.prog 151 [i64 a] (.int .u64 (a.natAbs : Int)) := by
  obtain ⟨h1, h2⟩ := h
  refine dcall_mk orders Try.func151 rfl (by kernel_rfl) noMu (by kernel_rfl) rfl (fun hs => ?_)
  clear hs
  by_cases hz : a < 0
  · have f0 : decide (a < 0) = true := decide_eq_true hz
    have f1 := wrap_u64_neg h1 hz
    have f2 := wrap_u64_sub (n := a.natAbs) (by omega) (by omega)
    rw [Nat.mod_eq_of_lt (by omega)] at f2
    repeat' (first
      | with_reducible refine cdK_splitN (fun h => ?_) (fun h => ?_)
      | with_reducible refine gdK_splitTN (fun h => ?_) (fun h => ?_)
      | with_reducible refine gdK_splitFN (fun h => ?_) (fun h => ?_)
      | with_reducible refine cdK_split (fun h => ?_) (fun h => ?_)
      | with_reducible refine gdK_splitT (fun h => ?_) (fun h => ?_)
      | with_reducible refine gdK_splitF (fun h => ?_) (fun h => ?_)
      | simp only [go_sem, Nat.reduceBEq, Nat.reduceAdd, Nat.reduceMul, Nat.reduceSub, Nat.reduceLeDiff, Nat.reduceLT, Nat.reduceEqDiff, Int.reduceEq, Int.reduceBEq, Int.reduceBNe, Int.reduceLT, Int.reduceLE, *])
  · have f0 : decide (a < 0) = false := decide_eq_false hz
    have f1 := wrap_u64_pos h2 (by omega)
    repeat' (first
      | with_reducible refine cdK_splitN (fun h => ?_) (fun h => ?_)
      | with_reducible refine gdK_splitTN (fun h => ?_) (fun h => ?_)
      | with_reducible refine gdK_splitFN (fun h => ?_) (fun h => ?_)
      | with_reducible refine cdK_split (fun h => ?_) (fun h => ?_)
      | with_reducible refine gdK_splitT (fun h => ?_) (fun h => ?_)
      | with_reducible refine gdK_splitF (fun h => ?_) (fun h => ?_)
      | simp only [go_sem, Nat.reduceBEq, Nat.reduceAdd, Nat.reduceMul, Nat.reduceSub, Nat.reduceLeDiff, Nat.reduceLT, Nat.reduceEqDiff, Int.reduceEq, Int.reduceBEq, Int.reduceBNe, Int.reduceLT, Int.reduceLE, *])

theorem mul64_split (x y : Nat) (hx : x < 18446744073709551616) (hy : y < 18446744073709551616) :
    let x0 := x % 4294967296; let x1 := x / 4294967296; let y0 := y % 4294967296; let y1 := y / 4294967296
    x0 * y0 ≤ 18446744065119617025 ∧ x1 * y0 ≤ 18446744065119617025 ∧ x0 * y1 ≤ 18446744065119617025 ∧ x1 * y1 ≤ 18446744065119617025 ∧ x * y = x0 * y0 + 4294967296 * (x1 * y0 + x0 * y1) + 18446744073709551616 * (x1 * y1) := by
  intro x0 x1 y0 y1
  have hx0 : x0 ≤ 4294967295 := by show x % 4294967296 ≤ _; omega
  have hx1 : x1 ≤ 4294967295 := by show x / 4294967296 ≤ _; omega
  have hy0 : y0 ≤ 4294967295 := by show y % 4294967296 ≤ _; omega
  have hy1 : y1 ≤ 4294967295 := by show y / 4294967296 ≤ _; omega
  refine ⟨Nat.mul_le_mul hx0 hy0, Nat.mul_le_mul hx1 hy0, Nat.mul_le_mul hx0 hy1, Nat.mul_le_mul hx1 hy1, ?_⟩
  have ex : x = x0 + 4294967296 * x1 := by show x = x % 4294967296 + 4294967296 * (x / 4294967296); omega
  have ey : y = y0 + 4294967296 * y1 := by show y = y % 4294967296 + 4294967296 * (y / 4294967296); omega
  rw [ex, ey]
  simp only [Nat.add_mul, Nat.mul_add]
  have e1 : 4294967296 * x1 * (4294967296 * y1) = 18446744073709551616 * (x1 * y1) := by rw [Nat.mul_mul_mul_comm]
  have e2 : 4294967296 * x1 * y0 = 4294967296 * (x1 * y0) := Nat.mul_assoc _ _ _
  have e3 : x0 * (4294967296 * y1) = 4294967296 * (x0 * y1) := Nat.mul_left_comm _ _ _
  rw [e1, e2, e3]; omega
section
variable {P : Program} {h : Hp} (t : TypeId)
theorem and_mask {a : Nat} (ha : a < 18446744073709551616) : binPV P h .and t (.t (.int .u64 (a : Int))) (.t (.int .u64 4294967295)) = some (.t (.int .u64 ((a % 4294967296 : Nat) : Int))) := by
  rw [bin_and]
  have e1 : BitVec.ofInt IntKind.u64.bits (a : Int) = BitVec.ofNat 64 a := ofInt_nat 64 a
  have e2 : BitVec.ofInt IntKind.u64.bits 4294967295 = BitVec.ofNat 64 4294967295 := ofInt_nat 64 4294967295
  rw [e1, e2]
  have e3 : (BitVec.ofNat 64 a &&& BitVec.ofNat 64 4294967295).toNat = a % 4294967296 := by
    rw [BitVec.toNat_and, BitVec.toNat_ofNat, BitVec.toNat_ofNat, Nat.mod_eq_of_lt ha]
    exact Nat.and_two_pow_sub_one_eq_mod a 32
  have e4 : IntKind.u64.wrap (((BitVec.ofNat 64 a &&& BitVec.ofNat 64 4294967295).toNat : Nat) : Int) = ((a % 4294967296 : Nat) : Int) := by
    rw [e3]; exact wrap_u64_lt (by omega)
  exact congrArg (fun z => some (PV.t (.int .u64 z))) e4
end
theorem mul64_d (x y : Nat) (hx : x < 18446744073709551616) (hy : y < 18446744073709551616) : DCall Try.prog 150 [.int .u64 (x : Int), .int .u64 (y : Int)] (.tup [.int .u64 ((x * y / 18446744073709551616 : Nat) : Int), .int .u64 ((x * y % 18446744073709551616 : Nat) : Int)]) := by
  obtain ⟨b1, b2, b3, b4, e⟩ := mul64_split x y hx hy
  have mx := and_mask (P := Try.prog) (h := fun _ => []) 64 hx
  have my := and_mask (P := Try.prog) (h := fun _ => []) 64 hy
  have hlo := u64_mul x y
  rw [e] at hlo ⊢
  clear e hx hy
  have m1 := u64_mul (x % 4294967296) (y % 4294967296)
  have m2 := u64_mul (x / 4294967296) (y % 4294967296)
  have m3 := u64_mul (x % 4294967296) (y / 4294967296)
  have m4 := u64_mul (x / 4294967296) (y / 4294967296)
  generalize x % 4294967296 * (y % 4294967296) = p0 at *
  generalize x / 4294967296 * (y % 4294967296) = p1 at *
  generalize x % 4294967296 * (y / 4294967296) = p2 at *
  generalize x / 4294967296 * (y / 4294967296) = p3 at *
  rw [Nat.mod_eq_of_lt (show p0 < 18446744073709551616 by omega)] at m1
  rw [Nat.mod_eq_of_lt (show p1 < 18446744073709551616 by omega)] at m2
  rw [Nat.mod_eq_of_lt (show p2 < 18446744073709551616 by omega)] at m3
  rw [Nat.mod_eq_of_lt (show p3 < 18446744073709551616 by omega)] at m4
  have s1 := u64_add p1 (p0 / 4294967296)
  rw [Nat.mod_eq_of_lt (by omega)] at s1
  have mw := and_mask (P := Try.prog) (h := fun _ => []) 64 (a := p1 + p0 / 4294967296) (by omega)
  have s2 := u64_add ((p1 + p0 / 4294967296) % 4294967296) p2
  rw [Nat.mod_eq_of_lt (show (p1 + p0 / 4294967296) % 4294967296 + p2 < 18446744073709551616 by omega)] at s2
  have s3 := u64_add p3 ((p1 + p0 / 4294967296) / 4294967296)
  rw [Nat.mod_eq_of_lt (by omega)] at s3
  have s4 := u64_add (p3 + (p1 + p0 / 4294967296) / 4294967296) (((p1 + p0 / 4294967296) % 4294967296 + p2) / 4294967296)
  rw [Nat.mod_eq_of_lt (show p3 + (p1 + p0 / 4294967296) / 4294967296 + ((p1 + p0 / 4294967296) % 4294967296 + p2) / 4294967296 < 18446744073709551616 by omega)] at s4
  have eh : (p0 + 4294967296 * (p1 + p2) + 18446744073709551616 * p3) / 18446744073709551616 = p3 + (p1 + p0 / 4294967296) / 4294967296 + ((p1 + p0 / 4294967296) % 4294967296 + p2) / 4294967296 := by omega
  rw [eh]
  clear eh b1 b2 b3 b4
  refine dcall_mk orders Try.func150 rfl (by kernel_rfl) noMu (by kernel_rfl) rfl (fun hs => ?_)
  repeat' (first
    | with_reducible refine cdK_splitN (fun h => ?_) (fun h => ?_)
    | with_reducible refine gdK_splitTN (fun h => ?_) (fun h => ?_)
    | with_reducible refine gdK_splitFN (fun h => ?_) (fun h => ?_)
    | with_reducible refine cdK_split (fun h => ?_) (fun h => ?_)
    | with_reducible refine gdK_splitT (fun h => ?_) (fun h => ?_)
    | with_reducible refine gdK_splitF (fun h => ?_) (fun h => ?_)
    | simp only [go_sem, Nat.reduceBEq, Nat.reduceAdd, Nat.reduceMul, Nat.reduceSub, Nat.reduceLeDiff, Nat.reduceLT, Nat.reduceEqDiff, Int.reduceEq, Int.reduceBEq, Int.reduceBNe, Int.reduceLT, Int.reduceLE, *])

theorem most_eq : most = 4611686018427387903 := rfl
theorem times_d (a b : Int) (ha : a.natAbs ≤ most) (hb : b.natAbs ≤ most) : DCall Try.prog 143 [i64 a, i64 b] (.tup [i64 (if a.natAbs * b.natAbs ≤ most then a * b else 0), .bool (decide (a.natAbs * b.natAbs ≤ most))]) := by
  rw [most_eq] at ha hb ⊢
  have s1 := size_d a ⟨by omega, by omega⟩
  have s2 := size_d b ⟨by omega, by omega⟩
  have s3 := mul64_d a.natAbs b.natAbs (by omega) (by omega)
  have hsgn : a * b = if decide (a < 0) != decide (b < 0) then -((a.natAbs * b.natAbs : Nat) : Int) else ((a.natAbs * b.natAbs : Nat) : Int) := by
    rw [Int.natCast_mul]
    by_cases h1 : a < 0
    · have e1 : ((a.natAbs : Nat) : Int) = -a := by omega
      by_cases h2 : b < 0
      · have e2 : ((b.natAbs : Nat) : Int) = -b := by omega
        simp [h1, h2, e1, e2, Int.neg_mul, Int.mul_neg]
      · have e2 : ((b.natAbs : Nat) : Int) = b := by omega
        simp [h1, h2, e1, e2, Int.neg_mul, Int.mul_neg]
    · have e1 : ((a.natAbs : Nat) : Int) = a := by omega
      by_cases h2 : b < 0
      · have e2 : ((b.natAbs : Nat) : Int) = -b := by omega
        simp [h1, h2, e1, e2, Int.neg_mul, Int.mul_neg]
      · have e2 : ((b.natAbs : Nat) : Int) = b := by omega
        simp [h1, h2, e1, e2, Int.neg_mul, Int.mul_neg]
  rw [hsgn]
  clear hsgn
  generalize a.natAbs * b.natAbs = p at *
  by_cases hp : p ≤ 4611686018427387903
  · have e1 : p / 18446744073709551616 = 0 := by omega
    have e2 : p % 18446744073709551616 = p := by omega
    rw [e1, e2] at s3
    rw [if_pos hp, decide_eq_true hp]
    have g1 : decide (((0 : Nat) : Int) > 0) = false := rfl
    have g2 : decide ((p : Int) > 4611686018427387903) = false := decide_eq_false (by omega)
    have g3 : IntKind.i64.wrap (p : Int) = p := wrap_i64 (by omega) (by omega)
    have g4 : IntKind.i64.wrap (0 - (p : Int)) = -(p : Int) := by rw [show (0 - (p : Int)) = -(p : Int) by omega]; exact wrap_i64 (by omega) (by omega)
    refine dcall_mk orders Try.func143 rfl (by kernel_rfl) noMu (by kernel_rfl) rfl (fun hs => ?_)
    clear hs ha hb hp e1 e2
    by_cases hd : (decide (a < 0) != decide (b < 0)) = true
    · rw [if_pos hd]
      repeat' (first
        | with_reducible refine cdK_splitN (fun h => ?_) (fun h => ?_)
        | with_reducible refine gdK_splitTN (fun h => ?_) (fun h => ?_)
        | with_reducible refine gdK_splitFN (fun h => ?_) (fun h => ?_)
        | with_reducible refine cdK_split (fun h => ?_) (fun h => ?_)
        | with_reducible refine gdK_splitT (fun h => ?_) (fun h => ?_)
        | with_reducible refine gdK_splitF (fun h => ?_) (fun h => ?_)
        | refine clK_mk (s1) rfl ?_
        | refine clK_mk (s2) rfl ?_
        | refine clK_mk (s3) rfl ?_
        | simp only [go_sem, Nat.reduceBEq, Nat.reduceAdd, Nat.reduceMul, Nat.reduceSub, Nat.reduceLeDiff, Nat.reduceLT, Nat.reduceEqDiff, Int.reduceEq, Int.reduceBEq, Int.reduceBNe, Int.reduceLT, Int.reduceLE, *])
    · rw [if_neg hd]
      have hd' : (decide (a < 0) != decide (b < 0)) = false := by simpa using hd
      clear hd
      repeat' (first
        | with_reducible refine cdK_splitN (fun h => ?_) (fun h => ?_)
        | with_reducible refine gdK_splitTN (fun h => ?_) (fun h => ?_)
        | with_reducible refine gdK_splitFN (fun h => ?_) (fun h => ?_)
        | with_reducible refine cdK_split (fun h => ?_) (fun h => ?_)
        | with_reducible refine gdK_splitT (fun h => ?_) (fun h => ?_)
        | with_reducible refine gdK_splitF (fun h => ?_) (fun h => ?_)
        | refine clK_mk (s1) rfl ?_
        | refine clK_mk (s2) rfl ?_
        | refine clK_mk (s3) rfl ?_
        | simp only [go_sem, Nat.reduceBEq, Nat.reduceAdd, Nat.reduceMul, Nat.reduceSub, Nat.reduceLeDiff, Nat.reduceLT, Nat.reduceEqDiff, Int.reduceEq, Int.reduceBEq, Int.reduceBNe, Int.reduceLT, Int.reduceLE, *])
  · rw [if_neg hp, decide_eq_false hp]
    refine dcall_mk orders Try.func143 rfl (by kernel_rfl) noMu (by kernel_rfl) rfl (fun hs => ?_)
    clear hs ha hb
    by_cases h0 : p / 18446744073709551616 = 0
    · rw [h0, Nat.mod_eq_of_lt (by omega)] at s3
      have g1 : decide (((0 : Nat) : Int) > 0) = false := rfl
      have g2 : decide ((p : Int) > 4611686018427387903) = true := decide_eq_true (by omega)
      clear h0
      repeat' (first
        | with_reducible refine cdK_splitN (fun h => ?_) (fun h => ?_)
        | with_reducible refine gdK_splitTN (fun h => ?_) (fun h => ?_)
        | with_reducible refine gdK_splitFN (fun h => ?_) (fun h => ?_)
        | with_reducible refine cdK_split (fun h => ?_) (fun h => ?_)
        | with_reducible refine gdK_splitT (fun h => ?_) (fun h => ?_)
        | with_reducible refine gdK_splitF (fun h => ?_) (fun h => ?_)
        | refine clK_mk (s1) rfl ?_
        | refine clK_mk (s2) rfl ?_
        | refine clK_mk (s3) rfl ?_
        | simp only [go_sem, Nat.reduceBEq, Nat.reduceAdd, Nat.reduceMul, Nat.reduceSub, Nat.reduceLeDiff, Nat.reduceLT, Nat.reduceEqDiff, Int.reduceEq, Int.reduceBEq, Int.reduceBNe, Int.reduceLT, Int.reduceLE, *])
    · have g1 : decide (((p / 18446744073709551616 : Nat) : Int) > 0) = true := decide_eq_true (by omega)
      clear h0
      generalize p / 18446744073709551616 = u at *
      generalize p % 18446744073709551616 = v at *
      repeat' (first
        | with_reducible refine cdK_splitN (fun h => ?_) (fun h => ?_)
        | with_reducible refine gdK_splitTN (fun h => ?_) (fun h => ?_)
        | with_reducible refine gdK_splitFN (fun h => ?_) (fun h => ?_)
        | with_reducible refine cdK_split (fun h => ?_) (fun h => ?_)
        | with_reducible refine gdK_splitT (fun h => ?_) (fun h => ?_)
        | with_reducible refine gdK_splitF (fun h => ?_) (fun h => ?_)
        | refine clK_mk (s1) rfl ?_
        | refine clK_mk (s2) rfl ?_
        | refine clK_mk (s3) rfl ?_
        | simp only [go_sem, Nat.reduceBEq, Nat.reduceAdd, Nat.reduceMul, Nat.reduceSub, Nat.reduceLeDiff, Nat.reduceLT, Nat.reduceEqDiff, Int.reduceEq, Int.reduceBEq, Int.reduceBNe, Int.reduceLT, Int.reduceLE, *])

theorem sgcd_d (a b : Int) (ha : a.natAbs ≤ most) (hb : b.natAbs ≤ most) : DCall Try.prog 152 [i64 a, i64 b] (i64 (Int.gcd a b : Nat)) := by
  rw [most_eq] at ha hb
  have s1 := size_d a ⟨by omega, by omega⟩
  have s2 := size_d b ⟨by omega, by omega⟩
  refine dcall_mk orders Try.func152 rfl (by kernel_rfl) noMu (by kernel_rfl) rfl (fun hs => ?_)
  clear hs
  repeat' (first
    | with_reducible refine cdK_splitN (fun h => ?_) (fun h => ?_)
    | with_reducible refine gdK_splitTN (fun h => ?_) (fun h => ?_)
    | with_reducible refine gdK_splitFN (fun h => ?_) (fun h => ?_)
    | with_reducible refine cdK_split (fun h => ?_) (fun h => ?_)
    | with_reducible refine gdK_splitT (fun h => ?_) (fun h => ?_)
    | with_reducible refine gdK_splitF (fun h => ?_) (fun h => ?_)
    | refine clK_mk (s1) rfl ?_
    | refine clK_mk (s2) rfl ?_
    | simp only [go_sem, Nat.reduceBEq, Nat.reduceAdd, Nat.reduceMul, Nat.reduceSub, Nat.reduceLeDiff, Nat.reduceLT, Nat.reduceEqDiff, Int.reduceEq, Int.reduceBEq, Int.reduceBNe, Int.reduceLT, Int.reduceLE, *])
  refine loop_mk (fun m s' => ∃ x y : Nat, m = y ∧ s'.sl 5 = .t (.int .u64 (x : Int)) ∧ s'.sl 6 = .t (.int .u64 (y : Int)) ∧ x ≤ 4611686018427387903 ∧ y ≤ 4611686018427387903 ∧ Nat.gcd x y = Int.gcd a b) b.natAbs ⟨a.natAbs, b.natAbs, rfl, rfl, rfl, ha, hb, rfl⟩ ?_
  rintro y s' ⟨x, _, rfl, h5, h6, hx, hy, hg⟩ hfr G hG
  clear hfr
  by_cases h0 : y = 0
  · subst h0
    rw [Nat.gcd_zero_right] at hg
    subst hg
    have g1 : decide (((0 : Nat) : Int) > 0) = false := rfl
    have g2 : IntKind.i64.wrap ((Int.gcd a b : Nat) : Int) = (Int.gcd a b : Nat) := wrap_i64 (by omega) (by omega)
    repeat' (first
      | with_reducible refine cdK_splitN (fun h => ?_) (fun h => ?_)
      | with_reducible refine gdK_splitTN (fun h => ?_) (fun h => ?_)
      | with_reducible refine gdK_splitFN (fun h => ?_) (fun h => ?_)
      | with_reducible refine cdK_split (fun h => ?_) (fun h => ?_)
      | with_reducible refine gdK_splitT (fun h => ?_) (fun h => ?_)
      | with_reducible refine gdK_splitF (fun h => ?_) (fun h => ?_)
      | simp only [go_sem, Nat.reduceBEq, Nat.reduceAdd, Nat.reduceMul, Nat.reduceSub, Nat.reduceLeDiff, Nat.reduceLT, Nat.reduceEqDiff, Int.reduceEq, Int.reduceBEq, Int.reduceBNe, Int.reduceLT, Int.reduceLE, *])
  · have g1 : decide (((y : Nat) : Int) > 0) = true := decide_eq_true (by omega)
    have g2 : ((y : Nat) : Int) = 0 ↔ False := by simp; omega
    have g3 : (x : Int).tmod (y : Int) = ((x % y : Nat) : Int) := rfl
    have hlt : x % y < y := Nat.mod_lt _ (by omega)
    have hg2 : Nat.gcd y (x % y) = Int.gcd a b := by rw [← hg, Nat.gcd_comm x y, Nat.gcd_rec y x, Nat.gcd_comm]
    repeat' (first
      | with_reducible refine cdK_splitN (fun h => ?_) (fun h => ?_)
      | with_reducible refine gdK_splitTN (fun h => ?_) (fun h => ?_)
      | with_reducible refine gdK_splitFN (fun h => ?_) (fun h => ?_)
      | with_reducible refine cdK_split (fun h => ?_) (fun h => ?_)
      | with_reducible refine gdK_splitT (fun h => ?_) (fun h => ?_)
      | with_reducible refine gdK_splitF (fun h => ?_) (fun h => ?_)
      | simp only [go_sem, Nat.reduceBEq, Nat.reduceAdd, Nat.reduceMul, Nat.reduceSub, Nat.reduceLeDiff, Nat.reduceLT, Nat.reduceEqDiff, Int.reduceEq, Int.reduceBEq, Int.reduceBNe, Int.reduceLT, Int.reduceLE, *])
    exact hG (x % y) _ hlt ⟨y, x % y, rfl, rfl, rfl, hy, by omega, hg2⟩
theorem ssmall_d (n d : Int) (hn : n.natAbs ≤ most) (hd : 0 < d) (hd2 : d.natAbs ≤ most) : DCall Try.prog 144 [i64 n, i64 d] (encQ (Rat.divInt n d)) := by
  have hg := sgcd_d n d hn hd2
  obtain ⟨e1, e2⟩ := divInt_num (a := n) hd
  have hgp : 0 < Int.gcd n d := Int.gcd_pos_of_ne_zero_right n (by omega)
  have b1 : (n.tdiv (Int.gcd n d)).natAbs ≤ n.natAbs := by rw [Int.natAbs_tdiv]; exact Nat.div_le_self _ _
  have b2 : (d.tdiv (Int.gcd n d)).natAbs ≤ d.natAbs := by rw [Int.natAbs_tdiv]; exact Nat.div_le_self _ _
  have hs : Whole.small (Rat.divInt n d) = true := by
    simp only [Whole.small, Bool.and_eq_true, decide_eq_true_eq]
    rw [e1]
    have : ((Rat.divInt n d).den : Int).natAbs = (Rat.divInt n d).den := Int.natAbs_natCast _
    rw [e2] at this
    omega
  unfold encQ
  rw [ratC_small hs, e1, e2]
  rw [most_eq] at hn hd2
  have g1 : IntKind.i64.wrap (n.tdiv (Int.gcd n d)) = n.tdiv (Int.gcd n d) := wrap_i64 (by omega) (by omega)
  have g2 : IntKind.i64.wrap (d.tdiv (Int.gcd n d)) = d.tdiv (Int.gcd n d) := wrap_i64 (by omega) (by omega)
  have g3 : ((Int.gcd n d : Nat) : Int) = 0 ↔ False := by simp; omega
  clear e1 e2 b1 b2 hs hn hd2 hd hgp
  refine dcall_mk orders Try.func144 rfl (by kernel_rfl) (fun d => d == 4) (by kernel_rfl) rfl (fun hs => ?_)
  clear hs
  repeat' (first
    | with_reducible refine cdK_splitN (fun h => ?_) (fun h => ?_)
    | with_reducible refine gdK_splitTN (fun h => ?_) (fun h => ?_)
    | with_reducible refine gdK_splitFN (fun h => ?_) (fun h => ?_)
    | with_reducible refine cdK_split (fun h => ?_) (fun h => ?_)
    | with_reducible refine gdK_splitT (fun h => ?_) (fun h => ?_)
    | with_reducible refine gdK_splitF (fun h => ?_) (fun h => ?_)
    | refine clK_mk (hg) rfl ?_
    | simp only [go_sem, Nat.reduceBEq, Nat.reduceAdd, Nat.reduceMul, Nat.reduceSub, Nat.reduceLeDiff, Nat.reduceLT, Nat.reduceEqDiff, Int.reduceEq, Int.reduceBEq, Int.reduceBNe, Int.reduceLT, Int.reduceLE, *])

/-! quotients -/
/-- a rational number that the program can hold -/
def qfits (q : Rat) : Prop := (digs q.num.natAbs).length ≤ 100000 ∧ (digs q.den).length ≤ 100000
theorem ratC_of {q : Rat} {A D : Int} (h1 : q.num = A) (h2 : (q.den : Int) = D) : ratC q = if A.natAbs ≤ most ∧ D.natAbs ≤ most then [i64 A, i64 D, .sl false [], .bool false, .sl false [], .bool false] else [i64 0, i64 0] ++ intC true A ++ intC true D := by
  subst h1
  have h3 : D.natAbs = q.den := by rw [← h2]; exact Int.natAbs_natCast _
  have h4 : decide (D < 0) = false := decide_eq_false (by omega)
  by_cases hs : Whole.small q = true
  · obtain ⟨a, b⟩ := small_true hs
    rw [ratC_small hs, if_pos ⟨a, by omega⟩, h2]
  · have hs' : Whole.small q = false := by simpa using hs
    rw [ratC_big hs', if_neg (fun h => hs (by simp only [Whole.small, Bool.and_eq_true, decide_eq_true_eq]; omega))]
    unfold intC
    rw [h3, h4]; rfl
theorem quo_d (a b : Int) (hb : b ≠ 0) (ha : fits a) (hbf : fits b) : DCall Try.prog 138 [encI true a, encI true b] (encQ (Rat.divInt a b)) := by
  have main : ∀ a' b' : Int, 0 < b' → fits a' → fits b' → Rat.divInt a b = Rat.divInt a' b' → (b' = b ∧ a' = a ∧ 0 < b ∨ b' = -b ∧ a' = -a ∧ b < 0) → DCall Try.prog 138 [encI true a, encI true b] (encQ (Rat.divInt a b)) := by
    intro a' b' hb' fa fb he hcase
    rw [he]
    obtain ⟨e1, e2⟩ := divInt_num (a := a') hb'
    have hgp : 0 < Int.gcd a' b' := Int.gcd_pos_of_ne_zero_right a' (by omega)
    have b1 : (a'.tdiv (Int.gcd a' b')).natAbs ≤ a'.natAbs := by rw [Int.natAbs_tdiv]; exact Nat.div_le_self _ _
    have b2 : (b'.tdiv (Int.gcd a' b')).natAbs ≤ b'.natAbs := by rw [Int.natAbs_tdiv]; exact Nat.div_le_self _ _
    have hgb : Int.gcd a' b' ≤ b'.natAbs := by show Nat.gcd _ _ ≤ _; exact Nat.gcd_le_right _ (by omega)
    have fg : fits (Int.gcd a' b' : Nat) := fits_mono (by omega) fb
    have w1 := gcd_d a' b' fa fb
    have w2 := div_d true true a' (Int.gcd a' b' : Nat) fa fg (by omega)
    have w3 := div_d true true b' (Int.gcd a' b' : Nat) fb fg (by omega)
    have w4 := wsmall_d true (a'.tdiv (Int.gcd a' b')) most (by decide)
    have w5 := wsmall_d true (b'.tdiv (Int.gcd a' b')) most (by decide)
    rw [show ((most : Nat) : Int) = 4611686018427387903 from rfl] at w4 w5
    unfold encQ
    rw [ratC_of e1 e2]
    clear e1 e2 b1 b2 hgb fg he fa fb ha hbf hgp
    generalize a'.tdiv (Int.gcd a' b') = A at *
    generalize b'.tdiv (Int.gcd a' b') = D at *
    generalize a'.tmod (Int.gcd a' b') = A2 at *
    generalize b'.tmod (Int.gcd a' b') = D2 at *
    generalize Int.gcd a' b' = g at *
    have n1 := neg_d true a
    have n2 := neg_d true b
    have sg := sign_d true b
    have hsg : b.sign = if b < 0 then -1 else 1 := by
      split
      · rename_i h; exact Int.sign_eq_neg_one_of_neg h
      · rename_i h; exact Int.sign_eq_one_of_pos (by omega)
    rw [hsg] at sg
    have hgoal : ∀ R : List Tr, (A.natAbs ≤ most ∧ D.natAbs ≤ most → R = [i64 A, i64 D, .sl false [], .bool false, .sl false [], .bool false]) → (¬ (A.natAbs ≤ most ∧ D.natAbs ≤ most) → R = [i64 0, i64 0] ++ intC true A ++ intC true D) → DCall Try.prog 138 [encI true a, encI true b] (.agg R) := by
      intro R hR1 hR2
      by_cases hA : A.natAbs ≤ most
      · rw [if_pos hA, decide_eq_true hA] at w4
        by_cases hD : D.natAbs ≤ most
        · rw [if_pos hD, decide_eq_true hD] at w5
          rw [hR1 ⟨hA, hD⟩]
          clear hR1 hR2 hA hD
          rcases hcase with ⟨rfl, rfl, hb0⟩ | ⟨rfl, rfl, hb0⟩
          · rw [if_neg (by omega)] at sg
            clear hb0 hb' hsg hb
            refine dcall_mk orders Try.func138 rfl (by kernel_rfl) (fun d => d == 2 || d == 3 || d == 4 || d == 5) (by kernel_rfl) rfl (fun hs => ?_)
            repeat' (first
              | with_reducible refine cdK_splitN (fun h => ?_) (fun h => ?_)
              | with_reducible refine gdK_splitTN (fun h => ?_) (fun h => ?_)
              | with_reducible refine gdK_splitFN (fun h => ?_) (fun h => ?_)
              | with_reducible refine cdK_split (fun h => ?_) (fun h => ?_)
              | with_reducible refine gdK_splitT (fun h => ?_) (fun h => ?_)
              | with_reducible refine gdK_splitF (fun h => ?_) (fun h => ?_)
              | refine clK_mk (sg) rfl ?_
              | refine clK_mk (w1) rfl ?_
              | refine clK_mk (w2) rfl ?_
              | refine clK_mk (w3) rfl ?_
              | refine clK_mk (w4) rfl ?_
              | refine clK_mk (w5) rfl ?_
              | simp only [go_sem, Nat.reduceBEq, Nat.reduceAdd, Nat.reduceMul, Nat.reduceSub, Nat.reduceLeDiff, Nat.reduceLT, Nat.reduceEqDiff, Int.reduceEq, Int.reduceBEq, Int.reduceBNe, Int.reduceLT, Int.reduceLE, *])
          · rw [if_pos hb0] at sg
            clear hb0 hb' hsg hb
            refine dcall_mk orders Try.func138 rfl (by kernel_rfl) (fun d => d == 2 || d == 3 || d == 4 || d == 5) (by kernel_rfl) rfl (fun hs => ?_)
            repeat' (first
              | with_reducible refine cdK_splitN (fun h => ?_) (fun h => ?_)
              | with_reducible refine gdK_splitTN (fun h => ?_) (fun h => ?_)
              | with_reducible refine gdK_splitFN (fun h => ?_) (fun h => ?_)
              | with_reducible refine cdK_split (fun h => ?_) (fun h => ?_)
              | with_reducible refine gdK_splitT (fun h => ?_) (fun h => ?_)
              | with_reducible refine gdK_splitF (fun h => ?_) (fun h => ?_)
              | refine clK_mk (sg) rfl ?_
              | refine clK_mk (n1) rfl ?_
              | refine clK_mk (n2) rfl ?_
              | refine clK_mk (w1) rfl ?_
              | refine clK_mk (w2) rfl ?_
              | refine clK_mk (w3) rfl ?_
              | refine clK_mk (w4) rfl ?_
              | refine clK_mk (w5) rfl ?_
              | simp only [go_sem, Nat.reduceBEq, Nat.reduceAdd, Nat.reduceMul, Nat.reduceSub, Nat.reduceLeDiff, Nat.reduceLT, Nat.reduceEqDiff, Int.reduceEq, Int.reduceBEq, Int.reduceBNe, Int.reduceLT, Int.reduceLE, *])
        · rw [if_neg hD, decide_eq_false hD] at w5
          rw [hR2 (fun h => hD h.2)]
          clear hR1 hR2 hA hD
          rcases hcase with ⟨rfl, rfl, hb0⟩ | ⟨rfl, rfl, hb0⟩
          · rw [if_neg (by omega)] at sg
            clear hb0 hb' hsg hb
            refine dcall_mk orders Try.func138 rfl (by kernel_rfl) (fun d => d == 2 || d == 3 || d == 4 || d == 5) (by kernel_rfl) rfl (fun hs => ?_)
            repeat' (first
              | with_reducible refine cdK_splitN (fun h => ?_) (fun h => ?_)
              | with_reducible refine gdK_splitTN (fun h => ?_) (fun h => ?_)
              | with_reducible refine gdK_splitFN (fun h => ?_) (fun h => ?_)
              | with_reducible refine cdK_split (fun h => ?_) (fun h => ?_)
              | with_reducible refine gdK_splitT (fun h => ?_) (fun h => ?_)
              | with_reducible refine gdK_splitF (fun h => ?_) (fun h => ?_)
              | refine clK_mk (sg) rfl ?_
              | refine clK_mk (w1) rfl ?_
              | refine clK_mk (w2) rfl ?_
              | refine clK_mk (w3) rfl ?_
              | refine clK_mk (w4) rfl ?_
              | refine clK_mk (w5) rfl ?_
              | simp only [go_sem, Nat.reduceBEq, Nat.reduceAdd, Nat.reduceMul, Nat.reduceSub, Nat.reduceLeDiff, Nat.reduceLT, Nat.reduceEqDiff, Int.reduceEq, Int.reduceBEq, Int.reduceBNe, Int.reduceLT, Int.reduceLE, *])
          · rw [if_pos hb0] at sg
            clear hb0 hb' hsg hb
            refine dcall_mk orders Try.func138 rfl (by kernel_rfl) (fun d => d == 2 || d == 3 || d == 4 || d == 5) (by kernel_rfl) rfl (fun hs => ?_)
            repeat' (first
              | with_reducible refine cdK_splitN (fun h => ?_) (fun h => ?_)
              | with_reducible refine gdK_splitTN (fun h => ?_) (fun h => ?_)
              | with_reducible refine gdK_splitFN (fun h => ?_) (fun h => ?_)
              | with_reducible refine cdK_split (fun h => ?_) (fun h => ?_)
              | with_reducible refine gdK_splitT (fun h => ?_) (fun h => ?_)
              | with_reducible refine gdK_splitF (fun h => ?_) (fun h => ?_)
              | refine clK_mk (sg) rfl ?_
              | refine clK_mk (n1) rfl ?_
              | refine clK_mk (n2) rfl ?_
              | refine clK_mk (w1) rfl ?_
              | refine clK_mk (w2) rfl ?_
              | refine clK_mk (w3) rfl ?_
              | refine clK_mk (w4) rfl ?_
              | refine clK_mk (w5) rfl ?_
              | simp only [go_sem, Nat.reduceBEq, Nat.reduceAdd, Nat.reduceMul, Nat.reduceSub, Nat.reduceLeDiff, Nat.reduceLT, Nat.reduceEqDiff, Int.reduceEq, Int.reduceBEq, Int.reduceBNe, Int.reduceLT, Int.reduceLE, *])
      · rw [if_neg hA, decide_eq_false hA] at w4
        rw [hR2 (fun h => hA h.1)]
        generalize hq : (if D.natAbs ≤ most then D else 0) = q5 at *
        generalize hq2 : decide (D.natAbs ≤ most) = b5 at *
        clear hR1 hR2 hA hq hq2
        rcases hcase with ⟨rfl, rfl, hb0⟩ | ⟨rfl, rfl, hb0⟩
        · rw [if_neg (by omega)] at sg
          clear hb0 hb' hsg hb
          refine dcall_mk orders Try.func138 rfl (by kernel_rfl) (fun d => d == 2 || d == 3 || d == 4 || d == 5) (by kernel_rfl) rfl (fun hs => ?_)
          repeat' (first
            | with_reducible refine cdK_splitN (fun h => ?_) (fun h => ?_)
            | with_reducible refine gdK_splitTN (fun h => ?_) (fun h => ?_)
            | with_reducible refine gdK_splitFN (fun h => ?_) (fun h => ?_)
            | with_reducible refine cdK_split (fun h => ?_) (fun h => ?_)
            | with_reducible refine gdK_splitT (fun h => ?_) (fun h => ?_)
            | with_reducible refine gdK_splitF (fun h => ?_) (fun h => ?_)
            | refine clK_mk (sg) rfl ?_
            | refine clK_mk (w1) rfl ?_
            | refine clK_mk (w2) rfl ?_
            | refine clK_mk (w3) rfl ?_
            | refine clK_mk (w4) rfl ?_
            | refine clK_mk (w5) rfl ?_
            | simp only [go_sem, Nat.reduceBEq, Nat.reduceAdd, Nat.reduceMul, Nat.reduceSub, Nat.reduceLeDiff, Nat.reduceLT, Nat.reduceEqDiff, Int.reduceEq, Int.reduceBEq, Int.reduceBNe, Int.reduceLT, Int.reduceLE, *])
        · rw [if_pos hb0] at sg
          clear hb0 hb' hsg hb
          refine dcall_mk orders Try.func138 rfl (by kernel_rfl) (fun d => d == 2 || d == 3 || d == 4 || d == 5) (by kernel_rfl) rfl (fun hs => ?_)
          repeat' (first
            | with_reducible refine cdK_splitN (fun h => ?_) (fun h => ?_)
            | with_reducible refine gdK_splitTN (fun h => ?_) (fun h => ?_)
            | with_reducible refine gdK_splitFN (fun h => ?_) (fun h => ?_)
            | with_reducible refine cdK_split (fun h => ?_) (fun h => ?_)
            | with_reducible refine gdK_splitT (fun h => ?_) (fun h => ?_)
            | with_reducible refine gdK_splitF (fun h => ?_) (fun h => ?_)
            | refine clK_mk (sg) rfl ?_
            | refine clK_mk (n1) rfl ?_
            | refine clK_mk (n2) rfl ?_
            | refine clK_mk (w1) rfl ?_
            | refine clK_mk (w2) rfl ?_
            | refine clK_mk (w3) rfl ?_
            | refine clK_mk (w4) rfl ?_
            | refine clK_mk (w5) rfl ?_
            | simp only [go_sem, Nat.reduceBEq, Nat.reduceAdd, Nat.reduceMul, Nat.reduceSub, Nat.reduceLeDiff, Nat.reduceLT, Nat.reduceEqDiff, Int.reduceEq, Int.reduceBEq, Int.reduceBNe, Int.reduceLT, Int.reduceLE, *])
    exact hgoal _ (fun h => if_pos h) (fun h => if_neg h)
  rcases Int.lt_or_lt_of_ne hb with h | h
  · exact main (-a) (-b) (by omega) (fits_mono (by omega) ha) (fits_mono (by omega) hbf) (Rat.neg_divInt_neg a b).symm (.inr ⟨rfl, rfl, h⟩)
  · exact main a b h ha hbf rfl (.inl ⟨rfl, rfl, h⟩)
end Ytajgclnahfmfmaa
end Go.Vm
