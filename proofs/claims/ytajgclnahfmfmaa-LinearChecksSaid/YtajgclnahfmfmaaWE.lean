/- How integers and rational numbers lie in the machine's trees. -/
import Derived.Test.YtajgclnahfmfmaaWS
namespace Go.Whole
open Go Go.Vm

abbrev u32 (n : Nat) : Tr := .int .u32 (n : Int)
def dl (l : List Nat) : List Tr := l.map u32
/-- an integer's two cells -/
def intC (nn : Bool) (z : Int) : List Tr := [.sl nn (dl (digs z.natAbs)), .bool (decide (z < 0))]
def encI (nn : Bool) (z : Int) : Tr := .agg (intC nn z)
def most : Nat := 4611686018427387903
def small (q : Rat) : Bool := decide (q.num.natAbs ≤ most) && decide (q.den ≤ most)
/-- a rational number's six cells -/
def ratC (q : Rat) : List Tr := if small q then [.int .i64 q.num, .int .i64 q.den, .sl false [], .bool false, .sl false [], .bool false] else [.int .i64 0, .int .i64 0, .sl true (dl (digs q.num.natAbs)), .bool (decide (q.num < 0)), .sl true (dl (digs q.den)), .bool false]
def encQ (q : Rat) : Tr := .agg (ratC q)
theorem ratC_length (q : Rat) : (ratC q).length = 6 := by unfold ratC; split <;> rfl
theorem intC_length (nn : Bool) (z : Int) : (intC nn z).length = 2 := rfl
theorem ok_encQ (q : Rat) : elemOK true 6 (encQ q) := ⟨fun _ => rfl, (fun h => nomatch h), ratC_length q⟩
theorem ok_encI (nn : Bool) (z : Int) : elemOK true 2 (encI nn z) := ⟨fun _ => rfl, (fun h => nomatch h), rfl⟩
theorem small_true {q : Rat} (h : small q = true) : q.num.natAbs ≤ most ∧ q.den ≤ most := by simpa [small] using h
theorem ratC_small {q : Rat} (h : small q = true) : ratC q = [.int .i64 q.num, .int .i64 q.den, .sl false [], .bool false, .sl false [], .bool false] := if_pos h
theorem ratC_big {q : Rat} (h : small q = false) : ratC q = [.int .i64 0, .int .i64 0, .sl true (dl (digs q.num.natAbs)), .bool (decide (q.num < 0)), .sl true (dl (digs q.den)), .bool false] := if_neg (by simp [h])

/-! lowest terms -/
theorem divInt_num {a b : Int} (hb : 0 < b) : (Rat.divInt a b).num = a.tdiv (Int.gcd a b) ∧ ((Rat.divInt a b).den : Int) = b.tdiv (Int.gcd a b) := by
  have hg : Int.gcd a b = Int.gcd b a := Int.gcd_comm a b
  have hd1 : ((Int.gcd b a : Nat) : Int) ∣ a := Int.gcd_dvd_right ..
  have hd2 : ((Int.gcd b a : Nat) : Int) ∣ b := Int.gcd_dvd_left ..
  rw [Rat.num_divInt, Rat.den_divInt, if_neg (by omega), hg, Int.sign_eq_one_of_pos hb, Int.one_mul]
  refine ⟨?_, ?_⟩
  · rw [Int.tdiv_eq_ediv_of_dvd hd1]
  · rw [Int.tdiv_eq_ediv_of_dvd hd2, Int.natCast_ediv]
    congr 1; omega
end Go.Whole
