/- Numbers in digits to the base 2^32: values, carries, products. Plain arithmetic. -/
import Derived.Test.YtajgclnahfmfmaaVmI
namespace Go.Whole
open Go

def B : Nat := 4294967296
theorem B_eq : B = 4294967296 := rfl
theorem B_pos : 0 < B := by decide
def val : List Nat → Nat
  | [] => 0
  | d :: r => d + B * val r
def strip : List Nat → List Nat
  | [] => []
  | d :: r => if strip r = [] then (if d = 0 then [] else [d]) else d :: strip r
def okD (l : List Nat) : Prop := ∀ d ∈ l, d < B
def digs (n : Nat) : List Nat := if n = 0 then [] else n % B :: digs (n / B)
termination_by n
decreasing_by exact Nat.div_lt_self (by omega) (by decide)

theorem digs_zero : digs 0 = [] := by unfold digs; rfl
theorem digs_pos {n : Nat} (h : n ≠ 0) : digs n = n % B :: digs (n / B) := by
  conv => lhs; unfold digs
  rw [if_neg h]
theorem okD_cons {d : Nat} {l : List Nat} : okD (d :: l) ↔ d < B ∧ okD l := by simp [okD]
theorem okD_nil : okD [] := by simp [okD]
theorem okD_append {a b : List Nat} : okD (a ++ b) ↔ okD a ∧ okD b := by
  simp only [okD, List.mem_append]
  exact ⟨fun h => ⟨fun d hd => h d (.inl hd), fun d hd => h d (.inr hd)⟩, fun h d hd => hd.elim (h.1 d) (h.2 d)⟩
theorem okD_take {l : List Nat} (h : okD l) (n : Nat) : okD (l.take n) := fun d hd => h d (List.mem_of_mem_take hd)
theorem okD_drop {l : List Nat} (h : okD l) (n : Nat) : okD (l.drop n) := fun d hd => h d (List.mem_of_mem_drop hd)
theorem okD_tail {l : List Nat} (h : okD l) : okD l.tail := by cases l with | nil => exact h | cons => exact (okD_cons.1 h).2
theorem okD_head {l : List Nat} (h : okD l) : l.headD 0 < B := by cases l with | nil => exact B_pos | cons => exact (okD_cons.1 h).1

theorem digs_ok : ∀ n, okD (digs n) := by
  intro n
  induction n using Nat.strongRecOn with
  | ind n ih =>
    by_cases h : n = 0
    · subst h; rw [digs_zero]; exact okD_nil
    · rw [digs_pos h, okD_cons]
      exact ⟨Nat.mod_lt _ B_pos, ih _ (Nat.div_lt_self (by omega) (by decide))⟩
theorem val_digs : ∀ n, val (digs n) = n := by
  intro n
  induction n using Nat.strongRecOn with
  | ind n ih =>
    by_cases h : n = 0
    · subst h; rw [digs_zero]; rfl
    · rw [digs_pos h]
      simp only [val, ih _ (Nat.div_lt_self (by omega : 0 < n) (by decide : 1 < B))]
      exact Nat.mod_add_div n B
theorem digs_nil {n : Nat} : digs n = [] ↔ n = 0 := by
  constructor
  · intro h; have := val_digs n; rw [h] at this; exact this.symm
  · intro h; subst h; exact digs_zero
theorem strip_digs : ∀ {l : List Nat}, okD l → strip l = digs (val l)
  | [], _ => by simp [strip, val, digs_zero]
  | d :: r, h => by
    have hd := (okD_cons.1 h).1
    have ih := strip_digs (okD_cons.1 h).2
    simp only [strip, ih, digs_nil, val]
    by_cases hr : val r = 0
    · rw [if_pos hr, hr, Nat.mul_zero, Nat.add_zero]
      by_cases h0 : d = 0
      · rw [if_pos h0, h0, digs_zero]
      · rw [if_neg h0, digs_pos h0, Nat.mod_eq_of_lt hd, Nat.div_eq_of_lt hd, digs_zero]
    · rw [if_neg hr]
      have hpos : d + B * val r ≠ 0 := by
        have := Nat.mul_pos B_pos (Nat.pos_of_ne_zero hr); omega
      rw [digs_pos hpos, Nat.add_mul_mod_self_left, Nat.mod_eq_of_lt hd, Nat.add_mul_div_left _ _ B_pos, Nat.div_eq_of_lt hd, Nat.zero_add]
theorem digs_inj {a b : Nat} (h : digs a = digs b) : a = b := by rw [← val_digs a, ← val_digs b, h]
theorem val_append : ∀ (a b : List Nat), val (a ++ b) = val a + B ^ a.length * val b
  | [], b => by simp [val]
  | d :: a, b => by
    simp only [List.cons_append, val, val_append a b, List.length_cons, Nat.pow_succ, Nat.mul_add]
    rw [Nat.mul_comm (B ^ a.length) B, Nat.mul_assoc]; omega
theorem val_lt : ∀ {l : List Nat}, okD l → val l < B ^ l.length
  | [], _ => by simp [val]
  | d :: r, h => by
    have h1 := (okD_cons.1 h).1
    have h2 := val_lt (okD_cons.1 h).2
    simp only [val, List.length_cons, Nat.pow_succ]
    have : B * val r + B ≤ B ^ r.length * B := by
      rw [Nat.mul_comm (B ^ r.length), ← Nat.mul_succ]
      exact Nat.mul_le_mul_left _ h2
    omega
theorem val_zeros : ∀ n, val (List.replicate n 0) = 0
  | 0 => rfl
  | n + 1 => by simp [List.replicate_succ, val, val_zeros n]
theorem okD_zeros (n : Nat) : okD (List.replicate n 0) := fun d hd => by rw [(List.mem_replicate.1 hd).2]; exact B_pos
theorem digs_length_le {n k : Nat} (h : n < B ^ k) : (digs n).length ≤ k := by
  induction k generalizing n with
  | zero => have : n = 0 := by simpa using h
            subst this; simp [digs_zero]
  | succ k ih =>
    by_cases h0 : n = 0
    · subst h0; simp [digs_zero]
    · rw [digs_pos h0, List.length_cons]
      have : n / B < B ^ k := by
        rw [Nat.div_lt_iff_lt_mul B_pos]; rw [Nat.pow_succ] at h; exact h
      have := ih this; omega
theorem lt_of_digs_length {n k : Nat} (h : (digs n).length ≤ k) : n < B ^ k := by
  have := val_lt (digs_ok n)
  rw [val_digs] at this
  exact Nat.lt_of_lt_of_le this (Nat.pow_le_pow_right B_pos h)
theorem digs_length {n k : Nat} : (digs n).length ≤ k ↔ n < B ^ k := ⟨lt_of_digs_length, digs_length_le⟩
theorem digs_length_mono {a b : Nat} (h : a ≤ b) : (digs a).length ≤ (digs b).length :=
  digs_length_le (Nat.lt_of_le_of_lt h (lt_of_digs_length (Nat.le_refl _)))

/-! ## comparing -/
theorem val_lt_of_drop {a b : List Nat} (ha : okD a) (hb : okD b) (hl : a.length = b.length) {i : Nat} (hi : i < a.length) (hd : a.drop (i + 1) = b.drop (i + 1)) (hx : a[i]! < b[i]!) : val a < val b := by
  have hib : i < b.length := by omega
  have ea : a = a.take i ++ a[i] :: a.drop (i + 1) := by rw [← List.drop_eq_getElem_cons hi, List.take_append_drop]
  have eb : b = b.take i ++ b[i] :: b.drop (i + 1) := by rw [← List.drop_eq_getElem_cons hib, List.take_append_drop]
  rw [ea, eb, val_append, val_append, hd]
  have h1 := val_lt (okD_take ha i)
  have la : (a.take i).length = i := by rw [List.length_take]; omega
  have lb : (b.take i).length = i := by rw [List.length_take]; omega
  rw [la] at h1 ⊢; rw [lb]
  simp only [val, Nat.mul_add]
  simp only [hi, hib, getElem!_pos] at hx
  have : B ^ i * a[i] + B ^ i ≤ B ^ i * b[i] := by rw [← Nat.mul_succ]; exact Nat.mul_le_mul_left _ hx
  omega
def cmpD (a b : List Nat) : Int := if a.length ≠ b.length then (a.length : Int) - b.length else if val a < val b then -1 else if val b < val a then 1 else 0
theorem cmpD_digs (x y : Nat) : (0 ≤ cmpD (digs x) (digs y)) ↔ y ≤ x := by
  unfold cmpD
  rw [val_digs, val_digs]
  by_cases hl : (digs x).length = (digs y).length
  · rw [if_neg (by simp [hl])]
    split
    · constructor
      · intro h; omega
      · intro h; omega
    · split <;> constructor <;> intros <;> omega
  · rw [if_pos (by simpa using hl)]
    constructor
    · intro h
      refine Decidable.byContradiction fun hn => ?_
      have := digs_length_mono (a := x) (b := y) (by omega)
      omega
    · intro h
      have := digs_length_mono h
      omega

/-! ## sums -/
def addL : List Nat → List Nat → Nat → List Nat
  | [], _, c => [c]
  | x :: a, b, c => (x + b.headD 0 + c) % B :: addL a b.tail ((x + b.headD 0 + c) / B)
theorem val_head_tail (b : List Nat) : val b = b.headD 0 + B * val b.tail := by cases b <;> simp [val]
theorem addL_spec : ∀ {a b : List Nat} {c : Nat}, okD a → okD b → c ≤ 1 → b.length ≤ a.length → val (addL a b c) = val a + val b + c ∧ okD (addL a b c) ∧ (addL a b c).length = a.length + 1
  | [], b, c, _, _, hc, hl => by
    have : b = [] := List.eq_nil_of_length_eq_zero (by simpa using hl)
    subst this
    simp only [addL, val]
    exact ⟨by omega, by rw [okD_cons]; exact ⟨by rw [B_eq]; omega, okD_nil⟩, rfl⟩
  | x :: a, b, c, ha, hb, hc, hl => by
    have h1 := (okD_cons.1 ha).1
    have h2 := okD_head hb
    have hc' : (x + b.headD 0 + c) / B ≤ 1 := by
      have : x + b.headD 0 + c < 2 * B := by omega
      have := (Nat.div_lt_iff_lt_mul B_pos).2 this
      omega
    obtain ⟨e1, e2, e3⟩ := addL_spec (a := a) (b := b.tail) (okD_cons.1 ha).2 (okD_tail hb) hc' (by simp only [List.length_tail, List.length_cons] at hl ⊢; omega)
    simp only [addL, val, e1, okD_cons, List.length_cons, e3]
    refine ⟨?_, ⟨Nat.mod_lt _ B_pos, e2⟩, trivial⟩
    rw [val_head_tail b]
    have := Nat.mod_add_div (x + b.headD 0 + c) B
    simp only [Nat.mul_add]
    omega
/-- a digit's difference, and the borrow -/
def sb (x y c : Nat) : Nat := (x + B - y + B - c) % B
def bw (x y c : Nat) : Nat := if x < y + c then 1 else 0
def subL : List Nat → List Nat → Nat → List Nat
  | [], _, _ => []
  | x :: a, b, c => sb x (b.headD 0) c :: subL a b.tail (bw x (b.headD 0) c)
theorem subL_spec : ∀ {a b : List Nat} {c : Nat}, okD a → okD b → c ≤ 1 → b.length ≤ a.length → okD (subL a b c) ∧ (subL a b c).length = a.length ∧ ∃ c', val (subL a b c) + val b + c = val a + c' * B ^ a.length
  | [], b, c, _, _, hc, hl => by
    have : b = [] := List.eq_nil_of_length_eq_zero (by simpa using hl)
    subst this
    exact ⟨okD_nil, rfl, c, by simp [subL, val]⟩
  | x :: a, b, c, ha, hb, hc, hl => by
    have h1 := (okD_cons.1 ha).1
    have h2 := okD_head hb
    obtain ⟨e1, e2, c', e3⟩ := subL_spec (a := a) (b := b.tail) (c := bw x (b.headD 0) c) (okD_cons.1 ha).2 (okD_tail hb) (by unfold bw; split <;> omega) (by simp only [List.length_tail, List.length_cons] at hl ⊢; omega)
    simp only [bw] at e1 e2 e3
    simp only [subL, sb, bw, val, okD_cons, List.length_cons, e2]
    refine ⟨⟨Nat.mod_lt _ B_pos, e1⟩, trivial, c', ?_⟩
    rw [val_head_tail b]
    have key : (x + B - b.headD 0 + B - c) % B + b.headD 0 + c = x + B * (if x < b.headD 0 + c then 1 else 0) := by
      split
      · rename_i hlt
        have e : x + B - b.headD 0 + B - c = (x + B - b.headD 0 - c) + B := by omega
        rw [e, Nat.add_mod_right, Nat.mod_eq_of_lt (by omega)]; omega
      · rename_i hlt
        have e : x + B - b.headD 0 + B - c = (x - b.headD 0 - c) + B + B := by omega
        rw [e, Nat.add_mod_right, Nat.add_mod_right, Nat.mod_eq_of_lt (by omega)]; omega
    have e4 : B * (val (subL a b.tail (if x < b.headD 0 + c then 1 else 0)) + val b.tail + (if x < b.headD 0 + c then 1 else 0)) = B * (val a + c' * B ^ a.length) := by rw [e3]
    have e5 : c' * B ^ (a.length + 1) = B * (c' * B ^ a.length) := by rw [Nat.pow_succ, ← Nat.mul_assoc, Nat.mul_comm]
    rw [e5]
    simp only [Nat.mul_add] at e4
    generalize B * (if x < b.headD 0 + c then 1 else 0) = q at *
    omega
theorem subL_val {a b : List Nat} (ha : okD a) (hb : okD b) (hl : b.length ≤ a.length) (hv : val b ≤ val a) : val (subL a b 0) = val a - val b ∧ okD (subL a b 0) ∧ (subL a b 0).length = a.length := by
  obtain ⟨h1, h2, c', h3⟩ := subL_spec ha hb (Nat.zero_le _) hl
  refine ⟨?_, h1, h2⟩
  have h4 := val_lt h1
  rw [h2] at h4
  have h5 := val_lt ha
  have : c' = 0 := by
    rcases Nat.eq_zero_or_pos c' with h | h
    · exact h
    · have : 1 * B ^ a.length ≤ c' * B ^ a.length := Nat.mul_le_mul_right _ h
      omega
  subst this
  omega

/-! ## products -/
def macL (a : Nat) : List Nat → List Nat → Nat → List Nat
  | [], o, c => c % B :: o.tail
  | b :: y, o, c => (c + a * b + o.headD 0) % B :: macL a y o.tail ((c + a * b + o.headD 0) / B)
theorem macL_spec {a : Nat} (ha : a < B) : ∀ {y o : List Nat} {c : Nat}, okD y → okD o → c < B → y.length < o.length → (∀ d ∈ o.drop y.length, d = 0) →
    val (macL a y o c) = a * val y + val o + c ∧ okD (macL a y o c) ∧ (macL a y o c).length = o.length ∧ ∀ d ∈ (macL a y o c).drop (y.length + 1), d = 0
  | [], o, c, _, ho, hc, hl, hz => by
    cases o with
    | nil => simp at hl
    | cons x o =>
      have hx : x = 0 := hz x (by simp)
      subst hx
      simp only [macL, val, List.tail_cons, Nat.mod_eq_of_lt hc, okD_cons, List.length_cons, List.length_nil]
      refine ⟨by omega, ⟨hc, (okD_cons.1 ho).2⟩, trivial, fun d hd => hz d ?_⟩
      simp only [List.length_nil, List.drop_zero]
      simp at hd; exact List.mem_cons_of_mem _ hd
  | b :: y, o, c, hy, ho, hc, hl, hz => by
    cases o with
    | nil => simp at hl
    | cons x o =>
      have hb := (okD_cons.1 hy).1
      have hx := (okD_cons.1 ho).1
      have hab : a * b ≤ (B - 1) * (B - 1) := Nat.mul_le_mul (by omega) (by omega)
      have hc' : (c + a * b + x) / B < B := by
        rw [Nat.div_lt_iff_lt_mul B_pos]
        have : (B - 1) * (B - 1) = 18446744065119617025 := by decide
        have : B * B = 18446744073709551616 := by decide
        rw [B_eq] at hc hx
        omega
      obtain ⟨e1, e2, e3, e4⟩ := macL_spec ha (y := y) (o := o) (c := (c + a * b + x) / B) (okD_cons.1 hy).2 (okD_cons.1 ho).2 hc' (by simpa using hl) (fun d hd => hz d (by simpa using hd))
      simp only [macL, List.headD_cons, List.tail_cons, val, e1, okD_cons, List.length_cons, e3]
      refine ⟨?_, ⟨Nat.mod_lt _ B_pos, e2⟩, trivial, fun d hd => e4 d (by simpa using hd)⟩
      have := Nat.mod_add_div (c + a * b + x) B
      have e5 : a * (b + B * val y) = a * b + B * (a * val y) := by rw [Nat.mul_add, Nat.mul_left_comm]
      rw [e5]
      simp only [Nat.mul_add]
      omega
def mulL : List Nat → List Nat → List Nat → List Nat
  | [], _, o => o
  | a :: x, y, o => (macL a y o 0).headD 0 :: mulL x y (macL a y o 0).tail
theorem mulL_spec : ∀ {x y o : List Nat}, okD x → okD y → okD o → o.length = x.length + y.length → (∀ d ∈ o.drop y.length, d = 0) → val (mulL x y o) = val x * val y + val o ∧ okD (mulL x y o)
  | [], y, o, _, _, ho, _, _ => by simp [mulL, val, ho]
  | a :: x, y, o, hx, hy, ho, hl, hz => by
    simp only [List.length_cons] at hl
    obtain ⟨e1, e2, e3, e4⟩ := macL_spec (okD_cons.1 hx).1 hy ho B_pos (by omega) hz
    obtain ⟨f1, f2⟩ := mulL_spec (x := x) (y := y) (o := (macL a y o 0).tail) (okD_cons.1 hx).2 hy (okD_tail e2) (by rw [List.length_tail, e3]; omega) (fun d hd => e4 d (by rw [← List.drop_one, List.drop_drop, Nat.add_comm] at hd; exact hd))
    simp only [mulL, val, f1, okD_cons]
    refine ⟨?_, okD_head e2, f2⟩
    have := val_head_tail (macL a y o 0)
    rw [e1] at this
    have e5 : (a + B * val x) * val y = a * val y + B * (val x * val y) := by rw [Nat.add_mul, Nat.mul_assoc]
    rw [e5]
    simp only [Nat.mul_add]
    omega
end Go.Whole

namespace Go.Whole
/-! ## a borrow, by bits -/
theorem top32 (b : BitVec 32) : b.toNat / 2147483648 = if b.msb then 1 else 0 := by
  have h := b.isLt
  have := BitVec.msb_eq_decide b
  rw [this]
  by_cases hc : 2147483648 ≤ b.toNat
  · rw [if_pos (by simpa using hc)]; omega
  · rw [if_neg (by simpa using hc)]; omega
theorem borrow32 (X Y D : BitVec 32) (c : Nat) (hc : c ≤ 1) (hD : D.toNat = (X.toNat + 4294967296 - Y.toNat + 4294967296 - c) % 4294967296) :
    ((~~~X &&& Y) ||| (~~~(X ^^^ Y) &&& D)).toNat / 2147483648 = if X.toNat < Y.toNat + c then 1 else 0 := by
  rw [top32]
  have hX := X.isLt
  have hY := Y.isLt
  simp only [BitVec.msb_or, BitVec.msb_and, BitVec.msb_not, BitVec.msb_xor, BitVec.msb_eq_decide X, BitVec.msb_eq_decide Y, BitVec.msb_eq_decide D, hD]
  by_cases h1 : 2147483648 ≤ X.toNat <;> by_cases h2 : 2147483648 ≤ Y.toNat <;> by_cases h3 : 2147483648 ≤ (X.toNat + 4294967296 - Y.toNat + 4294967296 - c) % 4294967296 <;>
    by_cases h4 : X.toNat < Y.toNat + c <;> simp [h1, h2, h3, h4] <;> omega
end Go.Whole
