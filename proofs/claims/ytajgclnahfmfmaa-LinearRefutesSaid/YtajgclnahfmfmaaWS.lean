/- The simplex method with the least-index rule, as plain arithmetic: its invariants, what it ends with, and that it ends. -/
import Derived.Test.YtajgclnahfmfmaaWD
namespace Go.Simplex

def sumN : Nat → (Nat → Rat) → Rat
  | 0, _ => 0
  | n + 1, f => sumN n f + f n
theorem sumN_congr {n : Nat} {f g : Nat → Rat} (h : ∀ i, i < n → f i = g i) : sumN n f = sumN n g := by
  induction n with
  | zero => rfl
  | succ n ih => simp only [sumN]; rw [ih (fun i hi => h i (by omega)), h n (by omega)]
theorem sumN_zero (n : Nat) : sumN n (fun _ => 0) = 0 := by
  induction n with
  | zero => rfl
  | succ n ih => simp only [sumN]; rw [ih]; grind
theorem sumN_add (n : Nat) (f g : Nat → Rat) : sumN n (fun i => f i + g i) = sumN n f + sumN n g := by
  induction n with
  | zero => simp only [sumN]; grind
  | succ n ih => simp only [sumN]; rw [ih]; grind
theorem sumN_sub (n : Nat) (f g : Nat → Rat) : sumN n (fun i => f i - g i) = sumN n f - sumN n g := by
  induction n with
  | zero => simp only [sumN]; grind
  | succ n ih => simp only [sumN]; rw [ih]; grind
theorem sumN_mul (n : Nat) (f : Nat → Rat) (t : Rat) : sumN n (fun i => f i * t) = sumN n f * t := by
  induction n with
  | zero => simp only [sumN]; grind
  | succ n ih => simp only [sumN]; rw [ih]; grind
theorem sumN_swap (n m : Nat) (f : Nat → Nat → Rat) : sumN n (fun i => sumN m (fun j => f i j)) = sumN m (fun j => sumN n (fun i => f i j)) := by
  induction n with
  | zero => simp only [sumN]; rw [sumN_zero]
  | succ n ih => simp only [sumN]; rw [ih, ← sumN_add]
theorem sumN_ite {n p : Nat} (hp : p < n) (x : Rat) (h : Nat → Rat) : sumN n (fun i => if i = p then x else h i) = x + sumN n h - h p := by
  induction n with
  | zero => omega
  | succ n ih =>
    simp only [sumN]
    by_cases hpn : p = n
    · subst hpn
      rw [if_pos rfl, sumN_congr (g := h) (fun i hi => by rw [if_neg (by omega)])]; grind
    · rw [if_neg (fun e => hpn e.symm), ih (by omega)]; grind
theorem sumN_delta {n p : Nat} (hp : p < n) (f : Nat → Rat) : sumN n (fun i => f i * (if i = p then 1 else 0)) = f p := by
  have : sumN n (fun i => f i * (if i = p then 1 else 0)) = sumN n (fun i => if i = p then f p else 0) := sumN_congr fun i _ => by
    by_cases h : i = p
    · rw [if_pos h, if_pos h, h]; grind
    · rw [if_neg h, if_neg h]; grind
  rw [this, sumN_ite hp, sumN_zero]; grind
theorem sumN_nonneg {n : Nat} {f : Nat → Rat} (h : ∀ i, i < n → 0 ≤ f i) : 0 ≤ sumN n f := by
  induction n with
  | zero => simp only [sumN]; grind
  | succ n ih => simp only [sumN]; have := ih (fun i hi => h i (by omega)); have := h n (by omega); grind
theorem sumN_pos {n : Nat} {f : Nat → Rat} (h : 0 < sumN n f) : ∃ i, i < n ∧ 0 < f i := by
  refine Decidable.byContradiction fun hn => ?_
  have h0 : ∀ i, i < n → 0 ≤ (fun i => - f i) i := fun i hi => by
    have : ¬ 0 < f i := fun hp => hn ⟨i, hi, hp⟩
    show 0 ≤ - f i
    grind
  have h1 := sumN_nonneg h0
  have h2 : sumN n (fun i => - f i) = - sumN n f := by
    have := sumN_mul n f (-1)
    rw [sumN_congr (g := fun i => f i * (-1)) (fun i _ => by grind), this]; grind
  rw [h2] at h1
  grind
theorem sumN_zero_of_nonneg {n : Nat} {f : Nat → Rat} (h : ∀ i, i < n → 0 ≤ f i) (hs : sumN n f = 0) : ∀ i, i < n → f i = 0 := by
  intro i hi
  have h1 := sumN_ite hi 0 f
  have h2 : 0 ≤ sumN n (fun k => if k = i then 0 else f k) := sumN_nonneg fun k hk => by
    by_cases e : k = i
    · rw [if_pos e]; exact Rat.le_refl
    · rw [if_neg e]; exact h k hk
  have h3 := h i hi
  rw [h1, hs] at h2
  grind

/-- rows, reduced costs, basis -/
structure S where
  r : Nat → Nat → Rat
  c : Nat → Rat
  b : Nat → Nat

def piv (s : S) (p q : Nat) : S where
  r i j := if i = p then s.r p j * (s.r p q)⁻¹ else s.r i j - s.r i q * (s.r p j * (s.r p q)⁻¹)
  c j := s.c j - s.c q * (s.r p j * (s.r p q)⁻¹)
  b i := if i = p then q else s.b i

/-- the cost of an artificial variable is 1 -/
def c0 (n cols j : Nat) : Rat := if cols ≤ j ∧ j < cols + n then 1 else 0
theorem c0_low {n cols j : Nat} (h : j < cols) : c0 n cols j = 0 := if_neg (by omega)
theorem c0_last {n cols : Nat} : c0 n cols (cols + n) = 0 := if_neg (by omega)
theorem c0_nonneg {n cols j : Nat} : 0 ≤ c0 n cols j := by unfold c0; split <;> grind

structure Inv (n cols : Nat) (A : Nat → Nat → Rat) (s : S) : Prop where
  comb : ∀ i, i < n → ∀ j, j ≤ cols + n → s.r i j = sumN n fun k => s.r i (cols + k) * A k j
  cost : ∀ j, j ≤ cols + n → s.c j = c0 n cols j - sumN n fun k => (1 - s.c (cols + k)) * A k j
  back : ∀ k, k < n → ∀ j, j ≤ cols + n → A k j = sumN n fun i => A k (s.b i) * s.r i j
  unit : ∀ i, i < n → ∀ l, l < n → s.r i (s.b l) = if i = l then 1 else 0
  art : ∀ j, j ≤ cols + n → s.c j = c0 n cols j - sumN n fun i => c0 n cols (s.b i) * s.r i j
  nn : ∀ i, i < n → 0 ≤ s.r i (cols + n)
  bl : ∀ i, i < n → s.b i < cols + n

variable {n cols : Nat} {A : Nat → Nat → Rat} {s s' : S}

theorem Inv.cb (h : Inv n cols A s) {l : Nat} (hl : l < n) : s.c (s.b l) = 0 := by
  rw [h.art _ (Nat.le_of_lt (h.bl l hl)), sumN_congr (g := fun i => c0 n cols (s.b i) * (if i = l then 1 else 0)) (fun i hi => by rw [h.unit i hi l hl]), sumN_delta hl]
  grind

/-- the sum over a turned tableau -/
theorem sum_piv {p q : Nat} (hp : p < n) (ha : s.r p q ≠ 0) (w : Nat → Rat) (j : Nat) :
    sumN n (fun i => w ((piv s p q).b i) * (piv s p q).r i j) = sumN n (fun i => w (s.b i) * s.r i j) + (w q - sumN n (fun i => w (s.b i) * s.r i q)) * (s.r p j * (s.r p q)⁻¹) := by
  have e : sumN n (fun i => w ((piv s p q).b i) * (piv s p q).r i j) = sumN n (fun i => if i = p then w q * (s.r p j * (s.r p q)⁻¹) else w (s.b i) * s.r i j - w (s.b i) * s.r i q * (s.r p j * (s.r p q)⁻¹)) := sumN_congr fun i _ => by
    simp only [piv]
    by_cases h : i = p
    · rw [if_pos h, if_pos h, if_pos h]
    · rw [if_neg h, if_neg h, if_neg h]; grind
  rw [e, sumN_ite hp, sumN_sub, sumN_mul]
  have h1 := Rat.mul_inv_cancel _ ha
  generalize (s.r p q)⁻¹ = y at *
  grind

theorem Inv.piv (h : Inv n cols A s) {p q : Nat} (hp : p < n) (hq : q < cols) (ha : 0 < s.r p q)
    (hr : ∀ i, i < n → 0 < s.r i q → s.r p (cols + n) * (s.r p q)⁻¹ ≤ s.r i (cols + n) * (s.r i q)⁻¹) : Inv n cols A (piv s p q) := by
  have ha0 : s.r p q ≠ 0 := by grind
  have hinv : 0 < (s.r p q)⁻¹ := Rat.inv_pos.2 ha
  have hcan := Rat.mul_inv_cancel _ ha0
  refine ⟨fun i hi j hj => ?_, fun j hj => ?_, fun k hk j hj => ?_, fun i hi l hl => ?_, fun j hj => ?_, fun i hi => ?_, fun i hi => ?_⟩
  · have h1 := h.comb i hi j hj
    have h2 := h.comb p hp j hj
    simp only [Simplex.piv]
    by_cases e : i = p
    · simp only [if_pos e]
      rw [h2, ← sumN_mul]
      exact sumN_congr fun k _ => by grind
    · simp only [if_neg e]
      have h3 : sumN n (fun k => (s.r i (cols + k) - s.r i q * (s.r p (cols + k) * (s.r p q)⁻¹)) * A k j) = sumN n (fun k => s.r i (cols + k) * A k j) - sumN n (fun k => s.r p (cols + k) * A k j) * (s.r i q * (s.r p q)⁻¹) := by
        rw [← sumN_mul, ← sumN_sub]
        exact sumN_congr fun k _ => by grind
      rw [h3, ← h1, ← h2]; grind
  · have h1 := h.cost j hj
    have h2 := h.comb p hp j hj
    simp only [Simplex.piv]
    have h3 : sumN n (fun k => (1 - (s.c (cols + k) - s.c q * (s.r p (cols + k) * (s.r p q)⁻¹))) * A k j) = sumN n (fun k => (1 - s.c (cols + k)) * A k j) + sumN n (fun k => s.r p (cols + k) * A k j) * (s.c q * (s.r p q)⁻¹) := by
      rw [← sumN_mul, ← sumN_add]
      exact sumN_congr fun k _ => by grind
    rw [h3, ← h2]; grind
  · rw [sum_piv hp ha0 (fun x => A k x) j, ← h.back k hk j hj, ← h.back k hk q (by omega)]; grind
  · simp only [Simplex.piv]
    by_cases hl' : l = p
    · simp only [if_pos hl']
      by_cases hi' : i = p
      · rw [if_pos hi', if_pos (by omega)]; exact hcan
      · rw [if_neg hi', if_neg (by omega)]; grind
    · simp only [if_neg hl']
      have hz : s.r p (s.b l) = 0 := by rw [h.unit p hp l hl, if_neg (fun e => hl' e.symm)]
      rw [hz]
      by_cases hi' : i = p
      · rw [if_pos hi', if_neg (by omega)]; grind
      · rw [if_neg hi', h.unit i hi l hl]; grind
  · rw [sum_piv hp ha0 (c0 n cols) j]
    have h1 := h.art j hj
    have h2 := h.art q (by omega)
    have h3 := c0_low (n := n) hq
    simp only [Simplex.piv]
    grind
  · simp only [Simplex.piv]
    by_cases hi' : i = p
    · rw [if_pos hi']; exact Rat.mul_nonneg (h.nn p hp) (Rat.le_of_lt hinv)
    · rw [if_neg hi']
      have hx := h.nn i hi
      have hy : 0 ≤ s.r p (cols + n) * (s.r p q)⁻¹ := Rat.mul_nonneg (h.nn p hp) (Rat.le_of_lt hinv)
      by_cases hs : 0 < s.r i q
      · have h1 := hr i hi hs
        have h2 := Rat.mul_le_mul_of_nonneg_left h1 (Rat.le_of_lt hs)
        have h3 := Rat.mul_inv_cancel _ (show s.r i q ≠ 0 by grind)
        have h4 : s.r i q * (s.r i (cols + n) * (s.r i q)⁻¹) = s.r i (cols + n) := by
          have : s.r i q * (s.r i (cols + n) * (s.r i q)⁻¹) = s.r i (cols + n) * (s.r i q * (s.r i q)⁻¹) := by grind
          rw [this, h3]; grind
        rw [h4] at h2; grind
      · have h1 : 0 ≤ - s.r i q := by grind
        have h2 := Rat.mul_nonneg h1 hy
        grind
  · simp only [Simplex.piv]
    by_cases hi' : i = p
    · rw [if_pos hi']; omega
    · rw [if_neg hi']; exact h.bl i hi

/-- two tableaus of one system -/
theorem Inv.two (h : Inv n cols A s) (h' : Inv n cols A s') {j : Nat} (hj : j ≤ cols + n) : s'.c j = s.c j + sumN n fun i => s'.c (s.b i) * s.r i j := by
  have e1 : sumN n (fun k => (1 - s'.c (cols + k)) * A k j) = sumN n (fun i => (c0 n cols (s.b i) - s'.c (s.b i)) * s.r i j) := by
    have : ∀ k, k < n → (1 - s'.c (cols + k)) * A k j = sumN n (fun i => (1 - s'.c (cols + k)) * A k (s.b i) * s.r i j) := fun k hk => by
      rw [h.back k hk j hj]
      have := sumN_mul n (fun i => A k (s.b i) * s.r i j) (1 - s'.c (cols + k))
      rw [Rat.mul_comm, ← this]
      exact sumN_congr fun i _ => by grind
    rw [sumN_congr this, sumN_swap]
    refine sumN_congr fun i hi => ?_
    rw [sumN_mul]
    congr 1
    have := h'.cost (s.b i) (Nat.le_of_lt (h.bl i hi))
    grind
  rw [h'.cost j hj, e1, h.art j hj]
  have e2 : sumN n (fun i => (c0 n cols (s.b i) - s'.c (s.b i)) * s.r i j) = sumN n (fun i => c0 n cols (s.b i) * s.r i j) - sumN n (fun i => s'.c (s.b i) * s.r i j) := by
    rw [← sumN_sub]; exact sumN_congr fun i _ => by grind
  rw [e2]; grind

/-- a column whose cost is negative has a positive entry -/
theorem Inv.row (h : Inv n cols A s) {q : Nat} (hq : q < cols) (hc : s.c q < 0) : ∃ i, i < n ∧ 0 < s.r i q := by
  have h1 := h.art q (by omega)
  rw [c0_low hq] at h1
  obtain ⟨i, hi, hp⟩ := sumN_pos (n := n) (f := fun i => c0 n cols (s.b i) * s.r i q) (by grind)
  refine ⟨i, hi, ?_⟩
  simp only [c0] at hp
  split at hp <;> grind

/-! ## what it ends with -/
theorem Inv.last_nonpos (h : Inv n cols A s) : s.c (cols + n) ≤ 0 := by
  have h1 := h.art (cols + n) (Nat.le_refl _)
  rw [c0_last] at h1
  have : 0 ≤ sumN n (fun i => c0 n cols (s.b i) * s.r i (cols + n)) := sumN_nonneg fun i hi => Rat.mul_nonneg c0_nonneg (h.nn i hi)
  grind
/-- the value of a variable -/
def value (n : Nat) (s : S) (last v : Nat) : Rat := sumN n fun i => if s.b i = v then s.r i last else 0
theorem Inv.value_basic (h : Inv n cols A s) {i : Nat} (hi : i < n) : value n s (cols + n) (s.b i) = s.r i (cols + n) := by
  unfold value
  have : sumN n (fun k => if s.b k = s.b i then s.r k (cols + n) else 0) = sumN n (fun k => if k = i then s.r i (cols + n) else 0) := sumN_congr fun k hk => by
    by_cases e : k = i
    · rw [e]; simp
    · rw [if_neg e, if_neg]
      intro hb
      have h1 := h.unit k hk i hi
      rw [← hb, h.unit k hk k hk, if_pos rfl, if_neg e] at h1
      grind
  rw [this, sumN_ite hi, sumN_zero]; grind
theorem value_out {v : Nat} (hv : ∀ i, i < n → s.b i ≠ v) (last : Nat) : value n s last v = 0 := by
  unfold value
  rw [sumN_congr (g := fun _ => 0) (fun i hi => if_neg (hv i hi)), sumN_zero]
theorem Inv.basis_inj (h : Inv n cols A s) {i k : Nat} (hi : i < n) (hk : k < n) (hb : s.b i = s.b k) : i = k := by
  have h1 := h.unit i hi k hk
  rw [← hb, h.unit i hi i hi, if_pos rfl] at h1
  by_cases e : i = k
  · exact e
  · rw [if_neg e] at h1; grind
theorem Inv.value_nonneg (h : Inv n cols A s) (v : Nat) : 0 ≤ value n s (cols + n) v := sumN_nonneg fun i hi => by
  by_cases e : s.b i = v
  · rw [if_pos e]; exact h.nn i hi
  · rw [if_neg e]; exact Rat.le_refl

theorem sumN_select {m : Nat} (f : Nat → Rat) {v : Nat} (x : Rat) : sumN m (fun j => f j * (if v = j then x else 0)) = if v < m then f v * x else 0 := by
  by_cases hv : v < m
  · rw [if_pos hv]
    have : sumN m (fun j => f j * (if v = j then x else 0)) = sumN m (fun j => if j = v then f v * x else 0) := sumN_congr fun j _ => by
      by_cases e : j = v
      · subst e; simp
      · rw [if_neg e, if_neg (fun h => e h.symm)]; grind
    rw [this, sumN_ite hv, sumN_zero]; grind
  · rw [if_neg hv, sumN_congr (g := fun _ => 0) (fun j hj => by rw [if_neg (by omega)]; grind), sumN_zero]

/-- at the cost 0, the values solve the system -/
theorem Inv.solves (h : Inv n cols A s) (hz : s.c (cols + n) = 0) {k : Nat} (hk : k < n) : sumN cols (fun j => A k j * value n s (cols + n) j) = A k (cols + n) := by
  have h1 := h.art (cols + n) (Nat.le_refl _)
  rw [c0_last, hz] at h1
  have hart := sumN_zero_of_nonneg (n := n) (f := fun i => c0 n cols (s.b i) * s.r i (cols + n)) (fun i hi => Rat.mul_nonneg c0_nonneg (h.nn i hi)) (by grind)
  rw [h.back k hk _ (Nat.le_refl _)]
  have e : sumN cols (fun j => A k j * value n s (cols + n) j) = sumN n (fun i => sumN cols (fun j => A k j * (if s.b i = j then s.r i (cols + n) else 0))) := by
    rw [sumN_swap]
    refine sumN_congr fun j _ => ?_
    unfold value
    have := sumN_mul n (fun i => if s.b i = j then s.r i (cols + n) else 0) (A k j)
    rw [Rat.mul_comm, ← this]
    exact sumN_congr fun i _ => by grind
  rw [e]
  refine sumN_congr fun i hi => ?_
  rw [sumN_select]
  by_cases hb : s.b i < cols
  · rw [if_pos hb]
  · rw [if_neg hb]
    have h2 := hart i hi
    have h3 : c0 n cols (s.b i) = 1 := if_pos ⟨by omega, h.bl i hi⟩
    simp only [h3] at h2
    have : s.r i (cols + n) = 0 := by grind
    rw [this]; grind

/-! ## that it ends -/
def Enter (cols : Nat) (s : S) (q : Nat) : Prop := q < cols ∧ s.c q < 0 ∧ ∀ j, j < q → 0 ≤ s.c j
def Leave (n cols : Nat) (s : S) (q p : Nat) : Prop := p < n ∧ 0 < s.r p q ∧ ∀ i, i < n → 0 < s.r i q →
  s.r p (cols + n) * (s.r p q)⁻¹ < s.r i (cols + n) * (s.r i q)⁻¹ ∨ (s.r p (cols + n) * (s.r p q)⁻¹ = s.r i (cols + n) * (s.r i q)⁻¹ ∧ s.b p ≤ s.b i)

theorem Leave.ratio {q p : Nat} (h : Leave n cols s q p) : ∀ i, i < n → 0 < s.r i q → s.r p (cols + n) * (s.r p q)⁻¹ ≤ s.r i (cols + n) * (s.r i q)⁻¹ := fun i hi hs => by
  rcases h.2.2 i hi hs with h1 | ⟨h1, _⟩
  · exact Rat.le_of_lt h1
  · rw [h1]; exact Rat.le_refl

/-- A run: m steps from a tableau that keeps the invariants. -/
structure Run (n cols m : Nat) (A : Nat → Nat → Rat) (st : Nat → S) (en le : Nat → Nat) : Prop where
  inv : Inv n cols A (st 0)
  ent : ∀ k, k < m → Enter cols (st k) (en k)
  lea : ∀ k, k < m → Leave n cols (st k) (en k) (le k)
  nxt : ∀ k, k < m → st (k + 1) = piv (st k) (le k) (en k)

variable {m : Nat} {st : Nat → S} {en le : Nat → Nat}
theorem Run.invs (h : Run n cols m A st en le) : ∀ k, k ≤ m → Inv n cols A (st k)
  | 0, _ => h.inv
  | k + 1, hk => by
    rw [h.nxt k (by omega)]
    exact (h.invs k (by omega)).piv (h.lea k (by omega)).1 (h.ent k (by omega)).1 (h.lea k (by omega)).2.1 (h.lea k (by omega)).ratio

def Basic (n : Nat) (s : S) (v : Nat) : Prop := ∃ i, i < n ∧ s.b i = v
theorem Run.enters (h : Run n cols m A st en le) {v : Nat} : ∀ {d i : Nat}, i + d ≤ m → ¬ Basic n (st i) v → Basic n (st (i + d)) v → ∃ e, i ≤ e ∧ e < i + d ∧ en e = v
  | 0, i, _, h1, h2 => absurd h2 h1
  | d + 1, i, hm, h1, h2 => by
    by_cases hb : Basic n (st (i + d)) v
    · obtain ⟨e, e1, e2, e3⟩ := h.enters (d := d) (by omega) h1 hb
      exact ⟨e, e1, by omega, e3⟩
    · obtain ⟨l, hl, hlb⟩ := h2
      rw [← Nat.add_assoc, h.nxt (i + d) (by omega)] at hlb
      simp only [piv] at hlb
      split at hlb
      · exact ⟨i + d, by omega, by omega, hlb⟩
      · exact absurd ⟨l, hl, hlb⟩ hb
theorem Run.leaves (h : Run n cols m A st en le) {v : Nat} : ∀ {d i : Nat}, i + d ≤ m → Basic n (st i) v → ¬ Basic n (st (i + d)) v → ∃ e, i ≤ e ∧ e < i + d ∧ (st e).b (le e) = v
  | 0, i, _, h1, h2 => absurd h1 h2
  | d + 1, i, hm, h1, h2 => by
    by_cases hb : Basic n (st (i + d)) v
    · obtain ⟨l, hl, hlb⟩ := hb
      refine ⟨i + d, by omega, by omega, ?_⟩
      refine Decidable.byContradiction fun hne => h2 ⟨l, hl, ?_⟩
      rw [← Nat.add_assoc, h.nxt (i + d) (by omega)]
      simp only [piv]
      rw [if_neg]
      · exact hlb
      · intro e; rw [e] at hlb; exact hne hlb
    · obtain ⟨e, e1, e2, e3⟩ := h.leaves (d := d) (by omega) h1 hb
      exact ⟨e, e1, by omega, e3⟩
/-- what enters is not basic before, and basic behind -/
theorem Run.not_basic (h : Run n cols m A st en le) {k : Nat} (hk : k < m) : ¬ Basic n (st k) (en k) := by
  rintro ⟨i, hi, hb⟩
  have h1 := (h.invs k (by omega)).cb hi
  rw [hb] at h1
  have := (h.ent k hk).2.1
  grind
theorem Run.basic_next (h : Run n cols m A st en le) {k : Nat} (hk : k < m) : Basic n (st (k + 1)) (en k) := by
  refine ⟨le k, (h.lea k hk).1, ?_⟩
  rw [h.nxt k hk]; simp [piv]

/-- the last cost grows -/
theorem Run.step_cost (h : Run n cols m A st en le) {k : Nat} (hk : k < m) : (st (k + 1)).c (cols + n) = (st k).c (cols + n) - (st k).c (en k) * ((st k).r (le k) (cols + n) * ((st k).r (le k) (en k))⁻¹) ∧
    0 ≤ (st k).r (le k) (cols + n) * ((st k).r (le k) (en k))⁻¹ := by
  refine ⟨by rw [h.nxt k hk]; rfl, Rat.mul_nonneg ((h.invs k (by omega)).nn _ (h.lea k hk).1) (Rat.le_of_lt (Rat.inv_pos.2 (h.lea k hk).2.1))⟩
theorem Run.cost_mono (h : Run n cols m A st en le) : ∀ {d i : Nat}, i + d ≤ m → (st i).c (cols + n) ≤ (st (i + d)).c (cols + n)
  | 0, _, _ => Rat.le_refl
  | d + 1, i, hm => by
    have h1 := h.cost_mono (d := d) (i := i) (by omega)
    obtain ⟨h2, h3⟩ := h.step_cost (k := i + d) (by omega)
    have h4 := (h.ent (i + d) (by omega)).2.1
    have h5 := Rat.mul_nonneg (show 0 ≤ - (st (i + d)).c (en (i + d)) by grind) h3
    rw [← Nat.add_assoc, h2]
    generalize (st (i + d)).r (le (i + d)) (cols + n) * ((st (i + d)).r (le (i + d)) (en (i + d)))⁻¹ = y at *
    grind

/-- NO BASIS COMES BACK. -/
theorem Run.no_cycle (h : Run n cols m A st en le) {a z : Nat} (haz : a < z) (hz : z ≤ m) : ¬ (∀ i, i < n → (st a).b i = (st z).b i) := by
  intro hb
  have hbas : ∀ v, Basic n (st a) v ↔ Basic n (st z) v := fun v => ⟨fun ⟨i, hi, e⟩ => ⟨i, hi, by rw [← hb i hi]; exact e⟩, fun ⟨i, hi, e⟩ => ⟨i, hi, by rw [hb i hi]; exact e⟩⟩
  have hcost : (st z).c (cols + n) = (st a).c (cols + n) := by
    rw [(h.invs a (by omega)).two (h.invs z hz) (Nat.le_refl _)]
    rw [sumN_congr (g := fun _ => 0) (fun i hi => by rw [hb i hi, (h.invs z hz).cb hi]; grind), sumN_zero]; grind
  -- all steps between are degenerate
  have hdeg : ∀ k, a ≤ k → k < z → (st k).r (le k) (cols + n) = 0 := by
    intro k h1 h2
    have m1 := h.cost_mono (i := a) (d := k - a) (by omega)
    have m2 := h.cost_mono (i := k + 1) (d := z - (k + 1)) (by omega)
    rw [show a + (k - a) = k by omega] at m1
    rw [show k + 1 + (z - (k + 1)) = z by omega, hcost] at m2
    obtain ⟨s1, s2⟩ := h.step_cost (k := k) (by omega)
    have h4 := (h.ent k (by omega)).2.1
    have hx := (h.lea k (by omega)).2.1
    have hinv := Rat.inv_pos.2 hx
    rcases Rat.le_iff_lt_or_eq.1 s2 with e | e
    rotate_left
    · rcases Rat.mul_eq_zero.1 e.symm with e | e
      · exact e
      · rw [e] at hinv; grind
    · exfalso
      have := Rat.mul_pos (show 0 < - (st k).c (en k) by grind) e
      generalize (st k).r (le k) (cols + n) * ((st k).r (le k) (en k))⁻¹ = y at *
      grind
  -- so the values stay
  have hval1 : ∀ k, a ≤ k → k < z → ∀ v, value n (st (k + 1)) (cols + n) v = value n (st k) (cols + n) v := by
    intro k h1 h2 v
    have hd := hdeg k h1 h2
    unfold value
    refine sumN_congr fun i hi => ?_
    rw [h.nxt k (by omega)]
    simp only [piv]
    by_cases e : i = le k
    · subst e
      rw [hd]
      simp
    · simp only [if_neg e, hd]
      by_cases ev : (st k).b i = v
      · rw [if_pos ev, if_pos ev]; grind
      · rw [if_neg ev, if_neg ev]
  have hval : ∀ d k, a ≤ k → k + d ≤ z → ∀ v, value n (st (k + d)) (cols + n) v = value n (st k) (cols + n) v := by
    intro d
    induction d with
    | zero => intro k _ _ v; rfl
    | succ d ih => intro k h1 h2 v; rw [← Nat.add_assoc, hval1 (k + d) (by omega) (by omega) v, ih k h1 (by omega) v]
  have hvals : ∀ i k, a ≤ i → i ≤ z → a ≤ k → k ≤ z → ∀ v, value n (st i) (cols + n) v = value n (st k) (cols + n) v := by
    intro i k h1 h2 h3 h4 v
    have e1 := hval (i - a) a (Nat.le_refl _) (by omega) v
    have e2 := hval (k - a) a (Nat.le_refl _) (by omega) v
    rw [show a + (i - a) = i by omega] at e1
    rw [show a + (k - a) = k by omega] at e2
    rw [e1, e2]
  -- what is basic here and not there enters in between
  have hfick : ∀ i k v, a ≤ i → i ≤ z → a ≤ k → k ≤ z → ¬ Basic n (st i) v → Basic n (st k) v → ∃ e, a ≤ e ∧ e < z ∧ en e = v := by
    intro i k v h1 h2 h3 h4 hn hk
    rcases Nat.le_total i k with hik | hik
    · obtain ⟨e, e1, e2, e3⟩ := h.enters (d := k - i) (i := i) (by omega) hn (by rw [show i + (k - i) = k by omega]; exact hk)
      exact ⟨e, by omega, by omega, e3⟩
    · by_cases hbz : Basic n (st z) v
      · obtain ⟨e, e1, e2, e3⟩ := h.enters (d := z - i) (i := i) (by omega) hn (by rw [show i + (z - i) = z by omega]; exact hbz)
        exact ⟨e, by omega, by omega, e3⟩
      · obtain ⟨e, e1, e2, e3⟩ := h.enters (d := k - a) (i := a) (by omega) (fun hh => hbz ((hbas v).1 hh)) (by rw [show a + (k - a) = k by omega]; exact hk)
        exact ⟨e, by omega, by omega, e3⟩
  have hleft : ∀ i k v, a ≤ i → i ≤ z → a ≤ k → k ≤ z → Basic n (st i) v → ¬ Basic n (st k) v → ∃ e, a ≤ e ∧ e < z ∧ (st e).b (le e) = v := by
    intro i k v h1 h2 h3 h4 hn hk
    rcases Nat.le_total i k with hik | hik
    · obtain ⟨e, e1, e2, e3⟩ := h.leaves (d := k - i) (i := i) (by omega) hn (by rw [show i + (k - i) = k by omega]; exact hk)
      exact ⟨e, by omega, by omega, e3⟩
    · by_cases hbz : Basic n (st z) v
      · obtain ⟨e, e1, e2, e3⟩ := h.leaves (d := k - a) (i := a) (by omega) ((hbas v).2 hbz) (by rw [show a + (k - a) = k by omega]; exact hk)
        exact ⟨e, by omega, by omega, e3⟩
      · obtain ⟨e, e1, e2, e3⟩ := h.leaves (d := z - i) (i := i) (by omega) hn (by rw [show i + (z - i) = z by omega]; exact hbz)
        exact ⟨e, by omega, by omega, e3⟩
  -- the greatest variable that enters
  have hmax : ∃ k, a ≤ k ∧ k < z ∧ ∀ e, a ≤ e → e < z → en e ≤ en k := by
    have : ∀ d, a + d < z → ∃ k, a ≤ k ∧ k ≤ a + d ∧ ∀ e, a ≤ e → e ≤ a + d → en e ≤ en k := by
      intro d
      induction d with
      | zero => intro _; exact ⟨a, Nat.le_refl _, Nat.le_refl _, fun e h1 h2 => by rw [show e = a by omega]; exact Nat.le_refl _⟩
      | succ d ih =>
        intro hd
        obtain ⟨k, k1, k2, k3⟩ := ih (by omega)
        by_cases hc : en (a + (d + 1)) ≤ en k
        · refine ⟨k, k1, by omega, fun e h1 h2 => ?_⟩
          by_cases he : e = a + (d + 1)
          · rw [he]; exact hc
          · exact k3 e h1 (by omega)
        · refine ⟨a + (d + 1), by omega, Nat.le_refl _, fun e h1 h2 => ?_⟩
          by_cases he : e = a + (d + 1)
          · rw [he]; exact Nat.le_refl _
          · have := k3 e h1 (by omega); omega
    obtain ⟨k, k1, k2, k3⟩ := this (z - 1 - a) (by omega)
    exact ⟨k, k1, by omega, fun e h1 h2 => k3 e h1 (by omega)⟩
  obtain ⟨ks, ks1, ks2, ksm⟩ := hmax
  -- it enters at ks, and leaves at kd
  have nb := h.not_basic (k := ks) (by omega)
  have yb := h.basic_next (k := ks) (by omega)
  obtain ⟨kd, kd1, kd2, kd3⟩ := hleft (ks + 1) ks (en ks) (by omega) (by omega) ks1 (by omega) yb nb
  have ID := h.invs kd (by omega)
  have IS := h.invs ks (by omega)
  have hent := h.ent kd (by omega)
  have hlea := h.lea kd (by omega)
  have hes := h.ent ks (by omega)
  -- at the entering column of kd
  have hkey := ID.two IS (j := en kd) (by have := hent.1; omega)
  have hne : en kd ≠ en ks := by
    intro e
    have h1 := ID.cb hlea.1
    rw [kd3, ← e] at h1
    have := hent.2.1
    grind
  have hlt : en kd < en ks := by have := ksm kd kd1 kd2; omega
  have hge := hes.2.2 _ hlt
  obtain ⟨i, hi, hpos⟩ := sumN_pos (n := n) (f := fun i => (st ks).c ((st kd).b i) * (st kd).r i (en kd)) (by have := hent.2.1; grind)
  -- row i
  have hnbi : ¬ Basic n (st ks) ((st kd).b i) := by
    rintro ⟨l, hl, hlb⟩
    have h1 := IS.cb hl
    rw [hlb] at h1
    rw [h1] at hpos
    grind
  obtain ⟨e, e1, e2, e3⟩ := hfick ks kd _ ks1 (by omega) kd1 (by omega) hnbi ⟨i, hi, rfl⟩
  have hle := ksm e e1 e2
  rw [e3] at hle
  have hne2 : (st kd).b i ≠ en ks := by
    intro hh
    have : i = le kd := ID.basis_inj hi hlea.1 (by rw [hh, kd3])
    subst this
    rw [kd3] at hpos
    have h1 := hes.2.1
    have h2 := hlea.2.1
    have := Rat.mul_pos (show 0 < - (st ks).c (en ks) by grind) h2
    grind
  have hcn := hes.2.2 ((st kd).b i) (by omega)
  have hri : 0 < (st kd).r i (en kd) := by
    rcases Rat.le_total (a := (st kd).r i (en kd)) (b := 0) with hneg | hnn
    · exfalso
      have := Rat.mul_nonneg hcn (show 0 ≤ - (st kd).r i (en kd) by grind)
      grind
    · rcases Rat.le_iff_lt_or_eq.1 hnn with hh | hh
      · exact hh
      · exfalso; rw [← hh] at hpos; grind
  have hz0 : (st kd).r i (cols + n) = 0 := by
    rw [← ID.value_basic hi, hvals kd ks kd1 (by omega) ks1 (by omega), value_out (fun l hl hh => hnbi ⟨l, hl, hh⟩)]
  have hz1 := hdeg kd kd1 kd2
  rcases hlea.2.2 i hi hri with hh | ⟨_, hh⟩
  · rw [hz0, hz1] at hh; grind
  · rw [kd3] at hh; omega

/-! ## pigeons -/
theorem pigeon : ∀ (K : Nat) (f : Nat → Nat), (∀ i, i ≤ K → f i < K) → ∃ p q, p < q ∧ q ≤ K ∧ f p = f q
  | 0, f, h => absurd (h 0 (Nat.le_refl _)) (by omega)
  | K + 1, f, h => by
    by_cases hx : ∃ i, i < K + 1 ∧ f i = f (K + 1)
    · obtain ⟨i, hi, e⟩ := hx
      exact ⟨i, K + 1, hi, Nat.le_refl _, e⟩
    · have hn : ∀ i, i < K + 1 → f i ≠ f (K + 1) := fun i hi e => hx ⟨i, hi, e⟩
      obtain ⟨p, q, h1, h2, h3⟩ := pigeon K (fun i => if f i < f (K + 1) then f i else f i - 1) (fun i hi => by
        have h4 := h i (by omega)
        have h5 := h (K + 1) (Nat.le_refl _)
        have h6 := hn i (by omega)
        split <;> omega)
      refine ⟨p, q, h1, by omega, ?_⟩
      have h4 := hn p (by omega)
      have h5 := hn q (by omega)
      split at h3 <;> split at h3 <;> omega
/-- a row of digits as a number -/
def code (M : Nat) (b : Nat → Nat) : Nat → Nat
  | 0 => 0
  | k + 1 => code M b k * M + b k
theorem code_lt {M : Nat} {b : Nat → Nat} : ∀ {k : Nat}, (∀ i, i < k → b i < M) → code M b k < M ^ k
  | 0, _ => by simp [code]
  | k + 1, h => by
    have h1 := code_lt (k := k) (fun i hi => h i (by omega))
    have h2 := h k (by omega)
    simp only [code, Nat.pow_succ]
    have : code M b k * M + M ≤ M ^ k * M := by rw [← Nat.succ_mul]; exact Nat.mul_le_mul_right _ h1
    omega
theorem code_inj {M : Nat} {b c : Nat → Nat} : ∀ {k : Nat}, (∀ i, i < k → b i < M) → (∀ i, i < k → c i < M) → code M b k = code M c k → ∀ i, i < k → b i = c i
  | 0, _, _, _, i, hi => by omega
  | k + 1, hb, hc, h, i, hi => by
    simp only [code] at h
    have h1 := hb k (by omega)
    have h2 := hc k (by omega)
    have h3 : b k = c k := by
      have e1 : (code M b k * M + b k) % M = b k := by rw [Nat.mul_comm, Nat.mul_add_mod, Nat.mod_eq_of_lt h1]
      have e2 : (code M c k * M + c k) % M = c k := by rw [Nat.mul_comm, Nat.mul_add_mod, Nat.mod_eq_of_lt h2]
      rw [← e1, h, e2]
    by_cases hk : i = k
    · rw [hk]; exact h3
    · have h4 : code M b k = code M c k := by
        rw [h3] at h
        exact Nat.eq_of_mul_eq_mul_right (show 0 < M by omega) (by omega)
      exact code_inj (fun i hi => hb i (by omega)) (fun i hi => hc i (by omega)) h4 i (by omega)

/-- A RUN IS SHORTER THAN THE NUMBER OF BASES. -/
theorem Run.short (h : Run n cols m A st en le) : m < (cols + n) ^ n := by
  refine Decidable.byContradiction fun hn => ?_
  have hb : ∀ k, k ≤ m → ∀ i, i < n → (st k).b i < cols + n := fun k hk i hi => (h.invs k hk).bl i hi
  obtain ⟨p, q, h1, h2, h3⟩ := pigeon ((cols + n) ^ n) (fun k => code (cols + n) (st k).b n) (fun k hk => code_lt (hb k (by omega)))
  exact h.no_cycle h1 (by omega) (code_inj (hb p (by omega)) (hb q (by omega)) h3)
end Go.Simplex
