/- Numbers in digits: bits, long division, shifts, borrows. Plain arithmetic. -/
import Derived.Test.YtajgclnahfmfmaaWN
namespace Go.Whole
open Go

theorem B_two : B = 2 ^ 32 := by decide
theorem getD_val : ∀ {l : List Nat} (_ : okD l) (k : Nat), l.getD k 0 = val l / B ^ k % B
  | [], _, k => by simp [val]
  | d :: r, h, 0 => by
    simp only [val, List.getD_cons_zero, Nat.pow_zero, Nat.div_one]
    rw [Nat.add_mul_mod_self_left, Nat.mod_eq_of_lt (okD_cons.1 h).1]
  | d :: r, h, k + 1 => by
    have ih := getD_val (okD_cons.1 h).2 k
    simp only [val, List.getD_cons_succ, ih]
    rw [Nat.pow_succ, Nat.mul_comm (B ^ k) B, ← Nat.div_div_eq_div_mul, Nat.add_mul_div_left _ _ B_pos, Nat.div_eq_of_lt (okD_cons.1 h).1, Nat.zero_add]
theorem mod_div_bit (a r : Nat) (hr : r < 32) : a % B / 2 ^ r % 2 = a / 2 ^ r % 2 := by
  have e : B = 2 ^ r * 2 ^ (32 - r) := by rw [← Nat.pow_add, B_two]; congr 1; omega
  rw [e, Nat.mod_mul_right_div_self, Nat.mod_mod_of_dvd]
  have : 2 ^ (32 - r) = 2 * 2 ^ (31 - r) := by rw [← Nat.pow_succ']; congr 1; omega
  rw [this]; exact Nat.dvd_mul_right _ _
theorem pow_split (i : Nat) : (2 : Nat) ^ i = B ^ (i / 32) * 2 ^ (i % 32) := by
  rw [B_two, ← Nat.pow_mul, ← Nat.pow_add]; congr 1; omega
/-- a bit of a number, by its digits -/
theorem bit_val {l : List Nat} (h : okD l) (i : Nat) : l.getD (i / 32) 0 / 2 ^ (i % 32) % 2 = val l / 2 ^ i % 2 := by
  rw [getD_val h, mod_div_bit _ _ (Nat.mod_lt _ (by decide)), Nat.div_div_eq_div_mul, ← pow_split]
theorem half_step (x i : Nat) : x / 2 ^ i = 2 * (x / 2 ^ (i + 1)) + x / 2 ^ i % 2 := by
  have : x / 2 ^ (i + 1) = x / 2 ^ i / 2 := by rw [Nat.pow_succ, Nat.div_div_eq_div_mul]
  rw [this]; omega
/-- one step of the long division -/
theorem div_step (x y i : Nat) (hy : 0 < y) : let r := 2 * (x / 2 ^ (i + 1) % y) + x / 2 ^ i % 2
    x / 2 ^ i % y = (if y ≤ r then r - y else r) ∧ x / 2 ^ i / y = 2 * (x / 2 ^ (i + 1) / y) + (if y ≤ r then 1 else 0) := by
  intro r
  have h1 := half_step x i
  have h2 := Nat.div_add_mod (x / 2 ^ (i + 1)) y
  have h3 := Nat.mod_lt (x / 2 ^ (i + 1)) hy
  have hb : x / 2 ^ i % 2 < 2 := Nat.mod_lt _ (by decide)
  have e : x / 2 ^ i = y * (2 * (x / 2 ^ (i + 1) / y)) + r := by
    rw [h1]
    have : y * (2 * (x / 2 ^ (i + 1) / y)) = 2 * (y * (x / 2 ^ (i + 1) / y)) := by rw [Nat.mul_left_comm]
    rw [this]
    show _ = _ + (2 * (x / 2 ^ (i + 1) % y) + x / 2 ^ i % 2)
    omega
  have hr : r < 2 * y := by show 2 * (x / 2 ^ (i + 1) % y) + x / 2 ^ i % 2 < 2 * y; omega
  by_cases hc : y ≤ r
  · rw [if_pos hc, if_pos hc]
    have e2 : x / 2 ^ i = (r - y) + y * (2 * (x / 2 ^ (i + 1) / y) + 1) := by rw [e, Nat.mul_succ]; omega
    rw [e2, Nat.add_mul_mod_self_left, Nat.add_mul_div_left _ _ hy, Nat.mod_eq_of_lt (by omega), Nat.div_eq_of_lt (by omega)]
    exact ⟨rfl, by omega⟩
  · rw [if_neg hc, if_neg hc]
    have e2 : x / 2 ^ i = r + y * (2 * (x / 2 ^ (i + 1) / y)) := by rw [e]; omega
    rw [e2, Nat.add_mul_mod_self_left, Nat.add_mul_div_left _ _ hy, Nat.mod_eq_of_lt (by omega), Nat.div_eq_of_lt (by omega)]
    exact ⟨rfl, by omega⟩
theorem val_set : ∀ (l : List Nat) (k e : Nat), k < l.length → val (l.set k (l.getD k 0 + e)) = val l + e * B ^ k
  | [], k, e, h => by simp at h
  | d :: r, 0, e, _ => by simp [val]; omega
  | d :: r, k + 1, e, h => by
    have := val_set r k e (by simpa using h)
    simp only [List.set_cons_succ, List.getD_cons_succ, val, this, Nat.mul_add, Nat.pow_succ]
    rw [Nat.mul_left_comm, Nat.mul_comm (B ^ k) B]; omega
/-- a bit that is not set yet, set -/
theorem or_bit {q r : Nat} (h : q % 2 ^ (r + 1) = 0) : q ||| 2 ^ r = q + 2 ^ r := by
  obtain ⟨m, rfl⟩ := Nat.dvd_of_mod_eq_zero h
  rw [Nat.two_pow_add_eq_or_of_lt]
  exact Nat.pow_lt_pow_right (by decide) (by omega)
theorem digit_low {l : List Nat} (h : okD l) {i : Nat} (hv : val l % 2 ^ (i + 1) = 0) : l.getD (i / 32) 0 % 2 ^ (i % 32 + 1) = 0 := by
  rw [getD_val h]
  have hr : i % 32 + 1 ≤ 32 := by have := Nat.mod_lt i (by decide : 0 < 32); omega
  have hd : (2 : Nat) ^ (i % 32 + 1) ∣ B := by rw [B_two]; exact Nat.pow_dvd_pow 2 hr
  rw [Nat.mod_mod_of_dvd _ hd]
  obtain ⟨m, hm⟩ := Nat.dvd_of_mod_eq_zero hv
  have e : (2 : Nat) ^ (i + 1) = B ^ (i / 32) * 2 ^ (i % 32 + 1) := by rw [B_two, ← Nat.pow_mul, ← Nat.pow_add]; congr 1; omega
  rw [hm, e, Nat.mul_assoc, Nat.mul_div_cancel_left _ (Nat.pow_pos B_pos)]
  exact Nat.mul_mod_right _ _
theorem digit_room {l : List Nat} (h : okD l) {i : Nat} (hv : val l % 2 ^ (i + 1) = 0) : l.getD (i / 32) 0 + 2 ^ (i % 32) < B := by
  have h1 := digit_low h hv
  have h2 : l.getD (i / 32) 0 < B := by rw [getD_val h]; exact Nat.mod_lt _ B_pos
  have hr : i % 32 + 1 ≤ 32 := by have := Nat.mod_lt i (by decide : 0 < 32); omega
  obtain ⟨m, hm⟩ := Nat.dvd_of_mod_eq_zero h1
  have e : B = 2 ^ (i % 32 + 1) * 2 ^ (32 - (i % 32 + 1)) := by rw [B_two, ← Nat.pow_add]; congr 1; omega
  rw [hm] at h2 ⊢
  rw [e] at h2 ⊢
  have h3 := Nat.lt_of_mul_lt_mul_left h2
  have h4 : 2 ^ (i % 32 + 1) * m + 2 ^ (i % 32 + 1) ≤ 2 ^ (i % 32 + 1) * 2 ^ (32 - (i % 32 + 1)) := by rw [← Nat.mul_succ]; exact Nat.mul_le_mul_left _ h3
  have h5 : (2 : Nat) ^ (i % 32) < 2 ^ (i % 32 + 1) := Nat.pow_lt_pow_right (by decide) (by omega)
  omega
/-- a bit of a quotient, set -/
theorem quot_set {l : List Nat} (h : okD l) {i : Nat} (hv : val l % 2 ^ (i + 1) = 0) (hi : i / 32 < l.length) :
    okD (l.set (i / 32) (l.getD (i / 32) 0 ||| 2 ^ (i % 32))) ∧ val (l.set (i / 32) (l.getD (i / 32) 0 ||| 2 ^ (i % 32))) = val l + 2 ^ i := by
  rw [or_bit (digit_low h hv), val_set _ _ _ hi, Nat.mul_comm, ← pow_split]
  refine ⟨fun d hd => ?_, rfl⟩
  rcases List.mem_or_eq_of_mem_set hd with h1 | h1
  · exact h d h1
  · rw [h1]; exact digit_room h hv

/-- 2 d + bit -/
def shiftL : List Nat → Nat → List Nat
  | [], c => [c]
  | x :: d, c => (x * 2 % B + c) :: shiftL d (x / 2 ^ 31)
theorem shiftL_spec : ∀ {d : List Nat} {c : Nat}, okD d → c ≤ 1 → val (shiftL d c) = 2 * val d + c ∧ okD (shiftL d c) ∧ (shiftL d c).length = d.length + 1
  | [], c, _, hc => by
    simp only [shiftL, val]
    exact ⟨by omega, by rw [okD_cons]; exact ⟨by rw [B_eq]; omega, okD_nil⟩, rfl⟩
  | x :: d, c, h, hc => by
    have hx := (okD_cons.1 h).1
    rw [B_eq] at hx
    obtain ⟨e1, e2, e3⟩ := shiftL_spec (d := d) (c := x / 2 ^ 31) (okD_cons.1 h).2 (by omega)
    simp only [shiftL, val, e1, okD_cons, List.length_cons, e3]
    rw [B_eq]
    exact ⟨by omega, ⟨by omega, e2⟩, trivial⟩
end Go.Whole
