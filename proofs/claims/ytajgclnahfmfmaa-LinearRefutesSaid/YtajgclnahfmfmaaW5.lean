/- Integers of any size: small ones, the greatest common divisor, the least common multiple. -/
import Derived.Test.YtajgclnahfmfmaaW4
set_option linter.unusedSimpArgs false
set_option maxRecDepth 10000
namespace Go.Vm
open Go Go.Proofs Go.Whole
namespace Ytajgclnahfmfmaa
open Go.Proofs.Try

theorem wsmall_d (nn : Bool) (z : Int) (m : Nat) (hm : m ≤ 4611686018427387904) : DCall Try.prog 122 [encI nn z, i64 m] (.tup [i64 (if z.natAbs ≤ m then z else 0), .bool (decide (z.natAbs ≤ m))]) := by
  refine dcall_mk orders Try.func122 rfl (by kernel_rfl) noMu (by kernel_rfl) rfl (fun hs => ?_)
  clear hs
  have f1 := wrap_u64_lt (n := m) (by omega)
  by_cases hl : (digs z.natAbs).length ≤ 2
  · have hz : z.natAbs < 18446744073709551616 := by have := lt_of_digs_length hl; rwa [show B ^ 2 = 18446744073709551616 by decide] at this
    have g1 : decide (((digs z.natAbs).length : Int) > 2) = false := decide_eq_false (by omega)
    have w := wword_d nn z hz
    by_cases hc : z.natAbs ≤ m
    · have g2 : decide (((z.natAbs : Nat) : Int) > (m : Int)) = false := decide_eq_false (by omega)
      rw [if_pos hc, decide_eq_true hc]
      have g3 : IntKind.i64.wrap ((z.natAbs : Nat) : Int) = z.natAbs := wrap_i64 (by omega) (by omega)
      have g4 : IntKind.i64.wrap (0 - ((z.natAbs : Nat) : Int)) = -(z.natAbs : Int) := by rw [show (0 - ((z.natAbs : Nat) : Int)) = -(z.natAbs : Int) by omega]; exact wrap_i64 (by omega) (by omega)
      clear hc
      by_cases hs : z < 0
      · have g5 : decide (z < 0) = true := decide_eq_true hs
        have e : -(z.natAbs : Int) = z := by omega
        unfold encI intC at w
        rw [g5] at w
        repeat' (first
          | with_reducible refine cdK_splitN (fun h => ?_) (fun h => ?_)
          | with_reducible refine gdK_splitTN (fun h => ?_) (fun h => ?_)
          | with_reducible refine gdK_splitFN (fun h => ?_) (fun h => ?_)
          | with_reducible refine cdK_split (fun h => ?_) (fun h => ?_)
          | with_reducible refine gdK_splitT (fun h => ?_) (fun h => ?_)
          | with_reducible refine gdK_splitF (fun h => ?_) (fun h => ?_)
          | refine clK_mk (w) rfl ?_
          | simp only [go_sem, Nat.reduceBEq, Nat.reduceAdd, Nat.reduceMul, Nat.reduceSub, Nat.reduceLeDiff, Nat.reduceLT, Nat.reduceEqDiff, Int.reduceEq, Int.reduceBEq, Int.reduceBNe, Int.reduceLT, Int.reduceLE, *])
      · have g5 : decide (z < 0) = false := decide_eq_false hs
        have e : (z.natAbs : Int) = z := by omega
        rw [e] at g3 g2
        unfold encI intC at w
        rw [g5, e] at w
        repeat' (first
          | with_reducible refine cdK_splitN (fun h => ?_) (fun h => ?_)
          | with_reducible refine gdK_splitTN (fun h => ?_) (fun h => ?_)
          | with_reducible refine gdK_splitFN (fun h => ?_) (fun h => ?_)
          | with_reducible refine cdK_split (fun h => ?_) (fun h => ?_)
          | with_reducible refine gdK_splitT (fun h => ?_) (fun h => ?_)
          | with_reducible refine gdK_splitF (fun h => ?_) (fun h => ?_)
          | refine clK_mk (w) rfl ?_
          | simp only [go_sem, Nat.reduceBEq, Nat.reduceAdd, Nat.reduceMul, Nat.reduceSub, Nat.reduceLeDiff, Nat.reduceLT, Nat.reduceEqDiff, Int.reduceEq, Int.reduceBEq, Int.reduceBNe, Int.reduceLT, Int.reduceLE, *])
    · have g2 : decide (((z.natAbs : Nat) : Int) > (m : Int)) = true := decide_eq_true (by omega)
      rw [if_neg hc, decide_eq_false hc]
      clear hc
      repeat' (first
        | with_reducible refine cdK_splitN (fun h => ?_) (fun h => ?_)
        | with_reducible refine gdK_splitTN (fun h => ?_) (fun h => ?_)
        | with_reducible refine gdK_splitFN (fun h => ?_) (fun h => ?_)
        | with_reducible refine cdK_split (fun h => ?_) (fun h => ?_)
        | with_reducible refine gdK_splitT (fun h => ?_) (fun h => ?_)
        | with_reducible refine gdK_splitF (fun h => ?_) (fun h => ?_)
        | refine clK_mk (w) rfl ?_
        | simp only [go_sem, Nat.reduceBEq, Nat.reduceAdd, Nat.reduceMul, Nat.reduceSub, Nat.reduceLeDiff, Nat.reduceLT, Nat.reduceEqDiff, Int.reduceEq, Int.reduceBEq, Int.reduceBNe, Int.reduceLT, Int.reduceLE, *])
  · have g1 : decide (((digs z.natAbs).length : Int) > 2) = true := decide_eq_true (by omega)
    have hc : ¬ z.natAbs ≤ m := by
      intro h
      exact hl (digs_length.2 (by rw [show B ^ 2 = 18446744073709551616 by decide]; omega))
    rw [if_neg hc, decide_eq_false hc]
    clear hc
    repeat' (first
      | with_reducible refine cdK_splitN (fun h => ?_) (fun h => ?_)
      | with_reducible refine gdK_splitTN (fun h => ?_) (fun h => ?_)
      | with_reducible refine gdK_splitFN (fun h => ?_) (fun h => ?_)
      | with_reducible refine cdK_split (fun h => ?_) (fun h => ?_)
      | with_reducible refine gdK_splitT (fun h => ?_) (fun h => ?_)
      | with_reducible refine gdK_splitF (fun h => ?_) (fun h => ?_)
      | simp only [go_sem, Nat.reduceBEq, Nat.reduceAdd, Nat.reduceMul, Nat.reduceSub, Nat.reduceLeDiff, Nat.reduceLT, Nat.reduceEqDiff, Int.reduceEq, Int.reduceBEq, Int.reduceBNe, Int.reduceLT, Int.reduceLE, *])

/-! the greatest common divisor -/
theorem gcd_d (x y : Int) (hx : fits x) (hy : fits y) : DCall Try.prog 147 [encI true x, encI true y] (encI true (Int.gcd x y)) := by
  refine dcall_mk orders Try.func147 rfl (by kernel_rfl) (fun d => d == 2 || d == 3 || d == 4 || d == 5 || d == 6 || d == 1000002 || d == 1000006) (by kernel_rfl) rfl (fun hs => ?_)
  clear hs
  have a1 := abs_d true x
  have a2 := abs_d true y
  repeat' (first
    | with_reducible refine cdK_splitN (fun h => ?_) (fun h => ?_)
    | with_reducible refine gdK_splitTN (fun h => ?_) (fun h => ?_)
    | with_reducible refine gdK_splitFN (fun h => ?_) (fun h => ?_)
    | with_reducible refine cdK_split (fun h => ?_) (fun h => ?_)
    | with_reducible refine gdK_splitT (fun h => ?_) (fun h => ?_)
    | with_reducible refine gdK_splitF (fun h => ?_) (fun h => ?_)
    | refine clK_mk (a1) rfl ?_
    | refine clK_mk (a2) rfl ?_
    | simp only [go_sem, Nat.reduceBEq, Nat.reduceAdd, Nat.reduceMul, Nat.reduceSub, Nat.reduceLeDiff, Nat.reduceLT, Nat.reduceEqDiff, Int.reduceEq, Int.reduceBEq, Int.reduceBNe, Int.reduceLT, Int.reduceLE, *])
  refine loop_mk (fun m s' => ∃ a b : Nat, m = b ∧ hget s'.hp (2, 0) = some ⟨(intC true a).map .t, 2, 1, tWInt, true, true⟩ ∧ hget s'.hp (3, 0) = some ⟨(intC true b).map .t, 2, 1, tWInt, true, true⟩ ∧ hget s'.hp (4, 0) = some ⟨[.t (.sl false []), .t (.bool false)], 2, 1, tWInt, true, true⟩ ∧ fits a ∧ fits b ∧ Nat.gcd a b = Int.gcd x y) y.natAbs
    ⟨x.natAbs, y.natAbs, rfl, rfl, rfl, rfl, fits_mono (by omega) hx, fits_mono (by omega) hy, rfl⟩ ?_
  rintro b s' ⟨a, _, rfl, h2, h3, h4, ha, hb, hg⟩ hfr G hG
  have c2 := hfr 2 (by kernel_rfl)
  have c3 := hfr 3 (by kernel_rfl)
  have c4 := hfr 4 (by kernel_rfl)
  clear hfr
  simp only [go_sem, Nat.reduceBEq, Nat.reduceAdd, Nat.reduceMul, Nat.reduceSub, Nat.reduceLeDiff, Nat.reduceLT, Nat.reduceEqDiff, Int.reduceEq, Int.reduceBEq, Int.reduceBNe, Int.reduceLT, Int.reduceLE] at c2 c3 c4
  change _ = PV.ad (2, 0) 1 0 at c2
  change _ = PV.ad (3, 0) 1 0 at c3
  change _ = PV.ad (4, 0) 1 0 at c4
  have sg := sign_d true (b : Int)
  by_cases h0 : b = 0
  · subst h0
    rw [Nat.gcd_zero_right] at hg
    subst hg
    rw [show ((0 : Nat) : Int).sign = 0 from rfl] at sg
    repeat' (first
      | with_reducible refine cdK_splitN (fun h => ?_) (fun h => ?_)
      | with_reducible refine gdK_splitTN (fun h => ?_) (fun h => ?_)
      | with_reducible refine gdK_splitFN (fun h => ?_) (fun h => ?_)
      | with_reducible refine cdK_split (fun h => ?_) (fun h => ?_)
      | with_reducible refine gdK_splitT (fun h => ?_) (fun h => ?_)
      | with_reducible refine gdK_splitF (fun h => ?_) (fun h => ?_)
      | refine clK_mk (sg) rfl ?_
      | simp only [go_sem, Nat.reduceBEq, Nat.reduceAdd, Nat.reduceMul, Nat.reduceSub, Nat.reduceLeDiff, Nat.reduceLT, Nat.reduceEqDiff, Int.reduceEq, Int.reduceBEq, Int.reduceBNe, Int.reduceLT, Int.reduceLE, *])
  · rw [show ((b : Nat) : Int).sign = 1 from Int.sign_eq_one_of_pos (by omega)] at sg
    have dv := div_d true true (a : Int) (b : Int) ha hb (by omega)
    rw [show (a : Int).tmod (b : Int) = ((a % b : Nat) : Int) from rfl] at dv
    have hlt : a % b < b := Nat.mod_lt _ (by omega)
    have hg2 : Nat.gcd b (a % b) = Int.gcd x y := by rw [← hg, Nat.gcd_comm a b, Nat.gcd_rec b a, Nat.gcd_comm]
    generalize (a : Int).tdiv (b : Int) = q at *
    generalize a % b = r at *
    repeat' (first
      | with_reducible refine cdK_splitN (fun h => ?_) (fun h => ?_)
      | with_reducible refine gdK_splitTN (fun h => ?_) (fun h => ?_)
      | with_reducible refine gdK_splitFN (fun h => ?_) (fun h => ?_)
      | with_reducible refine cdK_split (fun h => ?_) (fun h => ?_)
      | with_reducible refine gdK_splitT (fun h => ?_) (fun h => ?_)
      | with_reducible refine gdK_splitF (fun h => ?_) (fun h => ?_)
      | refine clK_mk (sg) rfl ?_
      | refine clK_mk (dv) rfl ?_
      | simp only [go_sem, Nat.reduceBEq, Nat.reduceAdd, Nat.reduceMul, Nat.reduceSub, Nat.reduceLeDiff, Nat.reduceLT, Nat.reduceEqDiff, Int.reduceEq, Int.reduceBEq, Int.reduceBNe, Int.reduceLT, Int.reduceLE, *])
    refine hG r _ hlt ⟨b, r, rfl, ?_, ?_, ?_, hb, fits_mono (by omega) hb, hg2⟩
    · simp only [go_sem, Nat.reduceBEq, Nat.reduceAdd, Nat.reduceMul, Nat.reduceSub, Nat.reduceLeDiff, Nat.reduceLT, Nat.reduceEqDiff, Int.reduceEq, Int.reduceBEq, Int.reduceBNe, Int.reduceLT, Int.reduceLE, h2]
    · simp only [go_sem, Nat.reduceBEq, Nat.reduceAdd, Nat.reduceMul, Nat.reduceSub, Nat.reduceLeDiff, Nat.reduceLT, Nat.reduceEqDiff, Int.reduceEq, Int.reduceBEq, Int.reduceBNe, Int.reduceLT, Int.reduceLE, h3]
    · simp only [go_sem, Nat.reduceBEq, Nat.reduceAdd, Nat.reduceMul, Nat.reduceSub, Nat.reduceLeDiff, Nat.reduceLT, Nat.reduceEqDiff, Int.reduceEq, Int.reduceBEq, Int.reduceBNe, Int.reduceLT, Int.reduceLE, h4]

/-! the least common multiple -/
def lcmN : Nat → List Nat → Nat
  | o, [] => o
  | o, x :: l => lcmN (Nat.lcm o x) l
def natI (n : Nat) : Tr := encI true (n : Int)
theorem fits_dvd {a d : Nat} (hd : d ≠ 0) (h : a ∣ d) (hf : fits (d : Int)) : fits (a : Int) := fits_mono (by have := Nat.le_of_dvd (Nat.pos_of_ne_zero hd) h; omega) hf
theorem lcm_step (o x : Nat) (ho : 0 < o) (hx : 0 < x) : (o : Int) * (x : Int).tdiv (Int.gcd o x : Nat) = ((Nat.lcm o x : Nat) : Int) := by
  have hg : Int.gcd (o : Int) (x : Int) = Nat.gcd o x := rfl
  rw [hg, show (x : Int).tdiv ((Nat.gcd o x : Nat) : Int) = ((x / Nat.gcd o x : Nat) : Int) from rfl, ← Int.natCast_mul]
  congr 1
  rw [Nat.lcm, Nat.mul_div_assoc _ (Nat.gcd_dvd_right o x)]
theorem lcm_d (nn : Bool) (l : List Nat) (d : Nat) (hd0 : d ≠ 0) (hf : fits (d : Int)) (hl : ∀ x ∈ l, 0 < x ∧ x ∣ d) (hlen : l.length ≤ 1000000) : DCall Try.prog 140 [.sl nn (l.map natI)] (natI (lcmN 1 l)) := by
  refine dcall_mk orders Try.func140 rfl (by kernel_rfl) (fun d => d == 2 || d == 3 || d == 5 || d == 6 || d == 7) (by kernel_rfl) rfl (fun hs => ?_)
  clear hs
  unfold natI
  have o1 := of_d 1 ⟨by decide, by decide⟩
  repeat' (first
    | with_reducible refine cdK_splitN (fun h => ?_) (fun h => ?_)
    | with_reducible refine gdK_splitTN (fun h => ?_) (fun h => ?_)
    | with_reducible refine gdK_splitFN (fun h => ?_) (fun h => ?_)
    | with_reducible refine cdK_split (fun h => ?_) (fun h => ?_)
    | with_reducible refine gdK_splitT (fun h => ?_) (fun h => ?_)
    | with_reducible refine gdK_splitF (fun h => ?_) (fun h => ?_)
    | refine clK_mk (o1) rfl ?_
    | simp only [go_sem, Nat.reduceBEq, Nat.reduceAdd, Nat.reduceMul, Nat.reduceSub, Nat.reduceLeDiff, Nat.reduceLT, Nat.reduceEqDiff, Int.reduceEq, Int.reduceBEq, Int.reduceBNe, Int.reduceLT, Int.reduceLE, *])
  refine loop_range l (fun k s' => ∃ o : Nat, hget s'.hp (3, 0) = some ⟨(intC true o).map .t, 2, 1, tWInt, true, true⟩ ∧ hget s'.hp (2, 0) = some ⟨[.t (.sl false []), .t (.bool false)], 2, 1, tWInt, true, true⟩ ∧ 0 < o ∧ o ∣ d ∧ lcmN 1 l = lcmN o (l.drop k)) rfl rfl (by first | assumption | omega) (by kernel_rfl) (fun _ _ _ _ hj => hj) (fun _ _ _ hj => hj) ?_ (fun k x s' hx hd hk hJ hix hfr G hG => ?_) (fun s' hJ hfr => ?_)
  · exact ⟨1, rfl, rfl, Nat.one_pos, Nat.one_dvd d, rfl⟩
  · have c3 := hfr 3 (by kernel_rfl)
    have c9 := hfr 9 (by kernel_rfl)
    clear hfr
    simp only [go_sem, Nat.reduceBEq, Nat.reduceAdd, Nat.reduceMul, Nat.reduceSub, Nat.reduceLeDiff, Nat.reduceLT, Nat.reduceEqDiff, Int.reduceEq, Int.reduceBEq, Int.reduceBNe, Int.reduceLT, Int.reduceLE] at c3 c9
    change _ = PV.ad (3, 0) 1 0 at c3
    obtain ⟨o, h3, h2, ho, hod, hJ⟩ := hJ
    obtain ⟨hx0, hxd⟩ := hl x (List.mem_of_getElem? hx)
    rw [hd, lcmN] at hJ
    have fo := fits_dvd hd0 hod hf
    have fx := fits_dvd hd0 hxd hf
    have g0 := Nat.gcd_pos_of_pos_left x ho
    have hgd := gcd_d (o : Int) (x : Int) fo fx
    have hdv := div_d true true (x : Int) (Int.gcd o x : Nat) fx (fits_mono (by have := Nat.gcd_le_right o hx0; show Nat.gcd o x ≤ x; exact this) fx) (by have : Int.gcd (o : Int) (x : Int) = Nat.gcd o x := rfl; omega)
    have hmu := mul_d true true (o : Int) ((x : Int).tdiv (Int.gcd o x : Nat)) fo (fits_mono (by rw [show (x : Int).tdiv (Int.gcd o x : Nat) = ((x / Nat.gcd o x : Nat) : Int) from rfl]; rw [Int.natAbs_natCast, Int.natAbs_natCast]; exact Nat.div_le_self _ _) fx)
    rw [lcm_step o x ho hx0] at hmu
    have hlp : 0 < Nat.lcm o x := Nat.lcm_pos ho hx0
    have hld : Nat.lcm o x ∣ d := Nat.lcm_dvd hod hxd
    generalize (x : Int).tdiv (Int.gcd o x : Nat) = u at *
    generalize (x : Int).tmod (Int.gcd o x : Nat) = u2 at *
    generalize Int.gcd (o : Int) (x : Int) = g at *
    repeat' (first
      | with_reducible refine cdK_splitN (fun h => ?_) (fun h => ?_)
      | with_reducible refine gdK_splitTN (fun h => ?_) (fun h => ?_)
      | with_reducible refine gdK_splitFN (fun h => ?_) (fun h => ?_)
      | with_reducible refine cdK_split (fun h => ?_) (fun h => ?_)
      | with_reducible refine gdK_splitT (fun h => ?_) (fun h => ?_)
      | with_reducible refine gdK_splitF (fun h => ?_) (fun h => ?_)
      | refine clK_mk (hgd) rfl ?_
      | refine clK_mk (hdv) rfl ?_
      | refine clK_mk (hmu) rfl ?_
      | simp only [go_sem, Nat.reduceBEq, Nat.reduceAdd, Nat.reduceMul, Nat.reduceSub, Nat.reduceLeDiff, Nat.reduceLT, Nat.reduceEqDiff, Int.reduceEq, Int.reduceBEq, Int.reduceBNe, Int.reduceLT, Int.reduceLE, *])
    refine hG _ ⟨Nat.lcm o x, ?_, ?_, hlp, hld, hJ⟩
    · simp only [go_sem, Nat.reduceBEq, Nat.reduceAdd, Nat.reduceMul, Nat.reduceSub, Nat.reduceLeDiff, Nat.reduceLT, Nat.reduceEqDiff, Int.reduceEq, Int.reduceBEq, Int.reduceBNe, Int.reduceLT, Int.reduceLE, h3]
    · simp only [go_sem, Nat.reduceBEq, Nat.reduceAdd, Nat.reduceMul, Nat.reduceSub, Nat.reduceLeDiff, Nat.reduceLT, Nat.reduceEqDiff, Int.reduceEq, Int.reduceBEq, Int.reduceBNe, Int.reduceLT, Int.reduceLE, h2]
  · obtain ⟨o, h3, h2, ho, hod, hJ⟩ := hJ
    have c2 := hfr 2 (by kernel_rfl)
    have c3 := hfr 3 (by kernel_rfl)
    clear hfr
    simp only [go_sem, Nat.reduceBEq, Nat.reduceAdd, Nat.reduceMul, Nat.reduceSub, Nat.reduceLeDiff, Nat.reduceLT, Nat.reduceEqDiff, Int.reduceEq, Int.reduceBEq, Int.reduceBNe, Int.reduceLT, Int.reduceLE] at c2 c3
    change _ = PV.ad (3, 0) 1 0 at c3
    change _ = PV.ad (2, 0) 1 0 at c2
    rw [List.drop_length, lcmN] at hJ
    rw [hJ]
    repeat' (first
      | with_reducible refine cdK_splitN (fun h => ?_) (fun h => ?_)
      | with_reducible refine gdK_splitTN (fun h => ?_) (fun h => ?_)
      | with_reducible refine gdK_splitFN (fun h => ?_) (fun h => ?_)
      | with_reducible refine cdK_split (fun h => ?_) (fun h => ?_)
      | with_reducible refine gdK_splitT (fun h => ?_) (fun h => ?_)
      | with_reducible refine gdK_splitF (fun h => ?_) (fun h => ?_)
      | simp only [go_sem, Nat.reduceBEq, Nat.reduceAdd, Nat.reduceMul, Nat.reduceSub, Nat.reduceLeDiff, Nat.reduceLT, Nat.reduceEqDiff, Int.reduceEq, Int.reduceBEq, Int.reduceBNe, Int.reduceLT, Int.reduceLE, *])
end Ytajgclnahfmfmaa
end Go.Vm
