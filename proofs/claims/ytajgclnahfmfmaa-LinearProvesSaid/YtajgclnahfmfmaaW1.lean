/- Integers of any size: what the program's functions compute, in numbers. -/
import Derived.Test.YtajgclnahfmfmaaR1
import Derived.Test.YtajgclnahfmfmaaWE
set_option linter.unusedSimpArgs false
set_option maxRecDepth 10000
namespace Go.Vm
open Go Go.Proofs Go.Whole
namespace Ytajgclnahfmfmaa
open Go.Proofs.Try

attribute [go_sem] Try.results104 Try.results73 Try.results70 Try.results97 Try.results133 Try.results153 Try.results131 Try.results130 Try.results132 Try.results145 Try.results146 Try.results100 Try.results105 Try.results72 Try.results71

abbrev tWInt : TypeId := 98
abbrev tU32 : TypeId := 145

/-! numbers of 32 and 64 bits -/
theorem wrap_u32 (n : Nat) : IntKind.u32.wrap (n : Int) = ((n % B : Nat) : Int) := by
  simp [IntKind.wrap, IntKind.bits, IntKind.signed, B_eq]
theorem wrap_u64 (n : Nat) : IntKind.u64.wrap (n : Int) = ((n % 18446744073709551616 : Nat) : Int) := by
  simp [IntKind.wrap, IntKind.bits, IntKind.signed]
theorem wrap_u32_lt {n : Nat} (h : n < B) : IntKind.u32.wrap (n : Int) = (n : Int) := by rw [wrap_u32, Nat.mod_eq_of_lt h]
theorem wrap_u64_lt {n : Nat} (h : n < 18446744073709551616) : IntKind.u64.wrap (n : Int) = (n : Int) := by rw [wrap_u64, Nat.mod_eq_of_lt h]
theorem u64_add (a b : Nat) : IntKind.u64.wrap ((a : Int) + (b : Int)) = (((a + b) % 18446744073709551616 : Nat) : Int) := by rw [← Int.natCast_add, wrap_u64]
theorem u64_mul (a b : Nat) : IntKind.u64.wrap ((a : Int) * (b : Int)) = (((a * b) % 18446744073709551616 : Nat) : Int) := by rw [← Int.natCast_mul, wrap_u64]
theorem fdiv_nat (a b : Nat) : (a : Int).fdiv (b : Int) = ((a / b : Nat) : Int) := by
  rw [Int.fdiv_eq_ediv_of_nonneg _ (Int.natCast_nonneg b), Int.natCast_ediv]
theorem shr_nat (a s m : Nat) : (a : Int).fdiv (2 ^ (min s m)) = ((a / 2 ^ (min s m) : Nat) : Int) := by
  have : (2 : Int) ^ (min s m) = ((2 ^ (min s m) : Nat) : Int) := by simp
  rw [this, fdiv_nat]

section
variable {P : Program} {h : Hp} (t : TypeId) (n : Nat) (k' : IntKind)
@[go_sem high] theorem shr_u64 : binPV P h .shr t (.t (.int .u64 (n : Int))) (.t (.int k' 32)) = some (.t (.int .u64 ((n / 4294967296 : Nat) : Int))) := by
  rw [bin_shr, if_neg (by decide)]
  have : (n : Int).fdiv (2 ^ (min (Int.toNat 32) IntKind.u64.bits)) = ((n / 4294967296 : Nat) : Int) := fdiv_nat n 4294967296
  rw [this]
@[go_sem high] theorem shr_u32 : binPV P h .shr t (.t (.int .u32 (n : Int))) (.t (.int k' 31)) = some (.t (.int .u32 ((n / 2147483648 : Nat) : Int))) := by
  rw [bin_shr, if_neg (by decide)]
  have : (n : Int).fdiv (2 ^ (min (Int.toNat 31) IntKind.u32.bits)) = ((n / 2147483648 : Nat) : Int) := fdiv_nat n 2147483648
  rw [this]
end

/-! digits -/
theorem dl_length (l : List Nat) : (dl l).length = l.length := List.length_map _
theorem dl_get (l : List Nat) (i : Nat) : (dl l)[i]? = (l[i]?).map u32 := List.getElem?_map ..
theorem dl_take (l : List Nat) (i : Nat) : (dl l).take i = dl (l.take i) := (List.map_take ..).symm
theorem dl_drop (l : List Nat) (i : Nat) : (dl l).drop i = dl (l.drop i) := (List.map_drop ..).symm
theorem dl_nil : dl [] = [] := rfl
theorem dl_append (a b : List Nat) : dl (a ++ b) = dl a ++ dl b := List.map_append
theorem sized_dl (l : List Nat) : sizedL (dl l) = true := by induction l with | nil => rfl | cons a l ih => simpa [dl, sizedL, Tr.sized, u32] using ih
theorem flat_dl (l : List Nat) : flat (dl l) = dl l := by induction l with | nil => rfl | cons a l ih => simpa [dl, flat, Tr.cells] using ih
theorem toNat_zero' : Int.toNat 0 = 0 := rfl
attribute [go_sem] dl_length dl_get sized_dl flat_dl toNat_zero'

theorem strip_snoc : ∀ (a : List Nat) (x : Nat), strip (a ++ [x]) = if x = 0 then strip a else a ++ [x]
  | [], x => by simp [strip]
  | d :: a, x => by
    simp only [List.cons_append, strip, strip_snoc a x]
    by_cases h : x = 0
    · simp [h]
    · simp [h]
theorem snoc_cases (l : List Nat) : l = [] ∨ ∃ a x, l = a ++ [x] := by
  rcases List.eq_nil_or_concat l with h | ⟨a, x, h⟩
  · exact .inl h
  · exact .inr ⟨a, x, by simpa using h⟩
theorem wrap_len {n : Nat} (h : n < 9223372036854775807) : IntKind.i64.wrap (((n + 1 : Nat) : Int) - 1) = (n : Int) := by
  rw [show ((n + 1 : Nat) : Int) - 1 = (n : Int) by omega]
  exact wrap_i64 (by omega) (by omega)

theorem trim_raw (nn : Bool) (l : List Nat) (neg : Bool) : DCall Try.prog 104 [.sl nn (dl l), .bool neg] (.agg [.sl nn (dl (strip l)), .bool (neg && !(strip l).isEmpty)]) := by
  refine dcall_mk orders Try.func104 rfl (by kernel_rfl) (fun d => d == 4) (by kernel_rfl) rfl (fun hs => ?_)
  simp [sizedL, Tr.sized, sized_dl, dl_length] at hs
  repeat' (first
    | with_reducible refine cdK_splitN (fun h => ?_) (fun h => ?_)
    | with_reducible refine gdK_splitTN (fun h => ?_) (fun h => ?_)
    | with_reducible refine gdK_splitFN (fun h => ?_) (fun h => ?_)
    | with_reducible refine cdK_split (fun h => ?_) (fun h => ?_)
    | with_reducible refine gdK_splitT (fun h => ?_) (fun h => ?_)
    | with_reducible refine gdK_splitF (fun h => ?_) (fun h => ?_)
    | simp only [go_sem, Nat.reduceBEq, Nat.reduceAdd, Nat.reduceMul, Nat.reduceSub, Nat.reduceLeDiff, Nat.reduceLT, Nat.reduceEqDiff, Int.reduceEq, Int.reduceBEq, Int.reduceBNe, Int.reduceLT, Int.reduceLE, *])
  refine loop_mk (fun m s' => ∃ l', m = l'.length ∧ s'.sl 0 = .t (.sl nn (dl l')) ∧ hget s'.hp (4, 0) = some ⟨[.t (.sl false []), .t (.bool false)], 2, 1, tWInt, true, true⟩ ∧ strip l' = strip l ∧ l'.length ≤ l.length) l.length ⟨l, rfl, rfl, rfl, rfl, Nat.le_refl _⟩ ?_
  rintro _ s' ⟨l', rfl, h0, h4, hl, hle⟩ hfr G hG
  have c1 := hfr 1 (by kernel_rfl)
  have c4 := hfr 4 (by kernel_rfl)
  clear hfr
  simp only [go_sem, Nat.reduceBEq, Nat.reduceAdd, Nat.reduceMul, Nat.reduceSub, Nat.reduceLeDiff, Nat.reduceLT, Nat.reduceEqDiff, Int.reduceEq, Int.reduceBEq, Int.reduceBNe, Int.reduceLT, Int.reduceLE] at c1 c4
  change _ = PV.ad (4, 0) 1 0 at c4
  rcases snoc_cases l' with rfl | ⟨a, x, rfl⟩
  · have f1 : decide (((0 : Nat) : Int) > 0) = false := rfl
    have hl' : strip l = [] := by rw [← hl]; rfl
    rw [hl']
    repeat' (first
      | with_reducible refine cdK_splitN (fun h => ?_) (fun h => ?_)
      | with_reducible refine gdK_splitTN (fun h => ?_) (fun h => ?_)
      | with_reducible refine gdK_splitFN (fun h => ?_) (fun h => ?_)
      | with_reducible refine cdK_split (fun h => ?_) (fun h => ?_)
      | with_reducible refine gdK_splitT (fun h => ?_) (fun h => ?_)
      | with_reducible refine gdK_splitF (fun h => ?_) (fun h => ?_)
      | simp only [go_sem, Nat.reduceBEq, Nat.reduceAdd, Nat.reduceMul, Nat.reduceSub, Nat.reduceLeDiff, Nat.reduceLT, Nat.reduceEqDiff, Int.reduceEq, Int.reduceBEq, Int.reduceBNe, Int.reduceLT, Int.reduceLE, *])
    all_goals simp

  · have hle' : a.length + 1 ≤ l.length := by simpa using hle
    have f1 : decide (((a.length + 1 : Nat) : Int) > 0) = true := decide_eq_true (by omega)
    have f2 := wrap_len (n := a.length) (by omega)
    have f3 : (dl (a ++ [x])).length = a.length + 1 := by simp [dl_length]
    have f4 : (a ++ [x])[a.length]? = some x := by simp
    have f5 : (dl (a ++ [x])).take a.length = dl a := by simp [dl_take]
    have f6 : (x : Int) = 0 ↔ x = 0 := by omega
    rw [strip_snoc] at hl
    have f7 : (a.length : Int) ≤ ((a.length + 1 : Nat) : Int) := by omega
    by_cases hx : x = 0
    · subst hx
      rw [if_pos rfl] at hl
      have f8 : (((0 : Nat) : Int) == 0) = true := rfl
      repeat' (first
        | with_reducible refine cdK_splitN (fun h => ?_) (fun h => ?_)
        | with_reducible refine gdK_splitTN (fun h => ?_) (fun h => ?_)
        | with_reducible refine gdK_splitFN (fun h => ?_) (fun h => ?_)
        | with_reducible refine cdK_split (fun h => ?_) (fun h => ?_)
        | with_reducible refine gdK_splitT (fun h => ?_) (fun h => ?_)
        | with_reducible refine gdK_splitF (fun h => ?_) (fun h => ?_)
        | simp only [go_sem, Nat.reduceBEq, Nat.reduceAdd, Nat.reduceMul, Nat.reduceSub, Nat.reduceLeDiff, Nat.reduceLT, Nat.reduceEqDiff, Int.reduceEq, Int.reduceBEq, Int.reduceBNe, Int.reduceLT, Int.reduceLE, *])
      refine hG _ _ (by simp) ⟨a, rfl, rfl, h4, hl, by omega⟩
    · rw [if_neg hx] at hl
      have f8 : ((x : Int) == 0) = false := by simpa using hx
      have f9 : (a ++ [x]).isEmpty = false := by simp
      rw [← hl]
      clear hl
      repeat' (first
        | with_reducible refine cdK_splitN (fun h => ?_) (fun h => ?_)
        | with_reducible refine gdK_splitTN (fun h => ?_) (fun h => ?_)
        | with_reducible refine gdK_splitFN (fun h => ?_) (fun h => ?_)
        | with_reducible refine cdK_split (fun h => ?_) (fun h => ?_)
        | with_reducible refine gdK_splitT (fun h => ?_) (fun h => ?_)
        | with_reducible refine gdK_splitF (fun h => ?_) (fun h => ?_)
        | simp only [go_sem, Nat.reduceBEq, Nat.reduceAdd, Nat.reduceMul, Nat.reduceSub, Nat.reduceLeDiff, Nat.reduceLT, Nat.reduceEqDiff, Int.reduceEq, Int.reduceBEq, Int.reduceBNe, Int.reduceLT, Int.reduceLE, *])
      all_goals simp

/-! integers -/
attribute [go_sem] encI intC
theorem trim_d (nn : Bool) (l : List Nat) (neg : Bool) (h : okD l) : DCall Try.prog 104 [.sl nn (dl l), .bool neg] (encI nn (if neg then -(val l : Int) else val l)) := by
  have := trim_raw nn l neg
  rw [strip_digs h] at this
  have e : encI nn (if neg then -(val l : Int) else val l) = .agg [.sl nn (dl (digs (val l))), .bool (neg && !(digs (val l)).isEmpty)] := by
    unfold encI intC
    have e1 : (if neg then -(val l : Int) else val l).natAbs = val l := by cases neg <;> simp
    have e2 : decide ((if neg then -(val l : Int) else val l) < 0) = (neg && !(digs (val l)).isEmpty) := by
      cases neg
      · simp
      · by_cases hv : val l = 0
        · rw [hv]; simp [digs_zero]
        · have : (digs (val l)).isEmpty = false := by
            cases he : digs (val l) with
            | nil => exact absurd (digs_nil.1 he) hv
            | cons => rfl
          simp [this]; omega
    rw [e1, e2]
  rw [e]; exact this
theorem bit_add (a b : Nat) : IntKind.u32.wrap ((a : Int) + (b : Int)) = (((a + b) % B : Nat) : Int) := by rw [← Int.natCast_add, wrap_u32]

theorem from_d (n : Nat) (hn : n < 18446744073709551616) : DCall Try.prog 70 [.int .u64 n] (encI true n) := by
  refine dcall_mk orders Try.func70 rfl (by kernel_rfl) (fun d => d == 2) (by kernel_rfl) rfl (fun hs => ?_)
  have h1 : n / 4294967296 % B = n / 4294967296 := Nat.mod_eq_of_lt (by rw [B_eq]; omega)
  have ht := trim_d true [n % B, n / 4294967296] false (by rw [okD_cons, okD_cons]; exact ⟨Nat.mod_lt _ B_pos, by rw [B_eq]; omega, okD_nil⟩)
  have hv : ((val [n % B, n / 4294967296] : Nat) : Int) = n := by
    have : val [n % B, n / 4294967296] = n := by simp only [val, B_eq]; omega
    rw [this]
  simp only [Bool.false_eq_true, if_false, hv] at ht
  repeat' (first
    | with_reducible refine cdK_splitN (fun h => ?_) (fun h => ?_)
    | with_reducible refine gdK_splitTN (fun h => ?_) (fun h => ?_)
    | with_reducible refine gdK_splitFN (fun h => ?_) (fun h => ?_)
    | with_reducible refine cdK_split (fun h => ?_) (fun h => ?_)
    | with_reducible refine gdK_splitT (fun h => ?_) (fun h => ?_)
    | with_reducible refine gdK_splitF (fun h => ?_) (fun h => ?_)
    | refine clK_mk (ht) rfl ?_
    | simp only [go_sem, Nat.reduceBEq, Nat.reduceAdd, Nat.reduceMul, Nat.reduceSub, Nat.reduceLeDiff, Nat.reduceLT, Nat.reduceEqDiff, Int.reduceEq, Int.reduceBEq, Int.reduceBNe, Int.reduceLT, Int.reduceLE, *, wrap_u32])

def inI64 (z : Int) : Prop := -9223372036854775808 ≤ z ∧ z ≤ 9223372036854775807
theorem wrap_u64_neg {z : Int} (h : -9223372036854775808 ≤ z) (hz : z < 0) : IntKind.u64.wrap z = ((18446744073709551616 - z.natAbs : Nat) : Int) := by
  simp [IntKind.wrap, IntKind.bits, IntKind.signed]; omega
theorem wrap_u64_sub {n : Nat} (h : n ≤ 18446744073709551616) (h0 : 0 < n) : IntKind.u64.wrap (0 - ((18446744073709551616 - n : Nat) : Int)) = ((n % 18446744073709551616 : Nat) : Int) := by
  simp [IntKind.wrap, IntKind.bits, IntKind.signed]; omega
theorem wrap_u64_pos {z : Int} (h : z ≤ 9223372036854775807) (hz : 0 ≤ z) : IntKind.u64.wrap z = (z.natAbs : Int) := by
  simp [IntKind.wrap, IntKind.bits, IntKind.signed]; omega
theorem of_d (z : Int) (h : inI64 z) : DCall Try.prog 73 [i64 z] (encI true z) := by
  obtain ⟨h1, h2⟩ := h
  refine dcall_mk orders Try.func73 rfl (by kernel_rfl) (fun d => d == 2 || d == 3) (by kernel_rfl) rfl (fun hs => ?_)
  by_cases hz : z < 0
  · have f0 : decide (z < 0) = true := by simpa using hz
    have f1 := wrap_u64_neg h1 hz
    have f2 := wrap_u64_sub (n := z.natAbs) (by omega) (by omega)
    rw [Nat.mod_eq_of_lt (by omega)] at f2
    have f3 : (((z.natAbs : Nat) : Int)).natAbs = z.natAbs := by omega
    repeat' (first
      | with_reducible refine cdK_splitN (fun h => ?_) (fun h => ?_)
      | with_reducible refine gdK_splitTN (fun h => ?_) (fun h => ?_)
      | with_reducible refine gdK_splitFN (fun h => ?_) (fun h => ?_)
      | with_reducible refine cdK_split (fun h => ?_) (fun h => ?_)
      | with_reducible refine gdK_splitT (fun h => ?_) (fun h => ?_)
      | with_reducible refine gdK_splitF (fun h => ?_) (fun h => ?_)
      | refine clK_mk (from_d _ (show 18446744073709551616 - z.natAbs < 18446744073709551616 by omega)) rfl ?_
      | refine clK_mk (from_d z.natAbs (by omega)) rfl ?_
      | simp only [go_sem, Nat.reduceBEq, Nat.reduceAdd, Nat.reduceMul, Nat.reduceSub, Nat.reduceLeDiff, Nat.reduceLT, Nat.reduceEqDiff, Int.reduceEq, Int.reduceBEq, Int.reduceBNe, Int.reduceLT, Int.reduceLE, *])
  · have f0 : decide (z < 0) = false := by simpa using hz
    have f1 := wrap_u64_pos h2 (by omega)
    have f3 : (((z.natAbs : Nat) : Int)).natAbs = z.natAbs := by omega
    have f4 : decide (((z.natAbs : Nat) : Int) < 0) = false := decide_eq_false (by omega)
    repeat' (first
      | with_reducible refine cdK_splitN (fun h => ?_) (fun h => ?_)
      | with_reducible refine gdK_splitTN (fun h => ?_) (fun h => ?_)
      | with_reducible refine gdK_splitFN (fun h => ?_) (fun h => ?_)
      | with_reducible refine cdK_split (fun h => ?_) (fun h => ?_)
      | with_reducible refine gdK_splitT (fun h => ?_) (fun h => ?_)
      | with_reducible refine gdK_splitF (fun h => ?_) (fun h => ?_)
      | refine clK_mk (from_d z.natAbs (by omega)) rfl ?_
      | simp only [go_sem, Nat.reduceBEq, Nat.reduceAdd, Nat.reduceMul, Nat.reduceSub, Nat.reduceLeDiff, Nat.reduceLT, Nat.reduceEqDiff, Int.reduceEq, Int.reduceBEq, Int.reduceBNe, Int.reduceLT, Int.reduceLE, *])
theorem sign_d (nn : Bool) (z : Int) : DCall Try.prog 97 [encI nn z] (i64 z.sign) := by
  refine dcall_mk orders Try.func97 rfl (by kernel_rfl) noMu (by kernel_rfl) rfl (fun hs => ?_)
  by_cases h0 : z = 0
  · subst h0
    have f1 : (((digs (Int.natAbs 0)).length : Int) == 0) = true := by rw [show Int.natAbs 0 = 0 from rfl, digs_zero]; rfl
    repeat' (first
      | with_reducible refine cdK_splitN (fun h => ?_) (fun h => ?_)
      | with_reducible refine gdK_splitTN (fun h => ?_) (fun h => ?_)
      | with_reducible refine gdK_splitFN (fun h => ?_) (fun h => ?_)
      | with_reducible refine cdK_split (fun h => ?_) (fun h => ?_)
      | with_reducible refine gdK_splitT (fun h => ?_) (fun h => ?_)
      | with_reducible refine gdK_splitF (fun h => ?_) (fun h => ?_)
      | simp only [go_sem, Nat.reduceBEq, Nat.reduceAdd, Nat.reduceMul, Nat.reduceSub, Nat.reduceLeDiff, Nat.reduceLT, Nat.reduceEqDiff, Int.reduceEq, Int.reduceBEq, Int.reduceBNe, Int.reduceLT, Int.reduceLE, *])
    rfl
  · have f1 : (((digs z.natAbs).length : Int) == 0) = false := by
      have : digs z.natAbs ≠ [] := fun e => h0 (by have := digs_nil.1 e; omega)
      cases he : digs z.natAbs with
      | nil => exact absurd he this
      | cons => simp; omega
    by_cases hz : z < 0
    · have f2 : decide (z < 0) = true := by simpa using hz
      repeat' (first
        | with_reducible refine cdK_splitN (fun h => ?_) (fun h => ?_)
        | with_reducible refine gdK_splitTN (fun h => ?_) (fun h => ?_)
        | with_reducible refine gdK_splitFN (fun h => ?_) (fun h => ?_)
        | with_reducible refine cdK_split (fun h => ?_) (fun h => ?_)
        | with_reducible refine gdK_splitT (fun h => ?_) (fun h => ?_)
        | with_reducible refine gdK_splitF (fun h => ?_) (fun h => ?_)
        | simp only [go_sem, Nat.reduceBEq, Nat.reduceAdd, Nat.reduceMul, Nat.reduceSub, Nat.reduceLeDiff, Nat.reduceLT, Nat.reduceEqDiff, Int.reduceEq, Int.reduceBEq, Int.reduceBNe, Int.reduceLT, Int.reduceLE, *])
      simp [Int.sign_eq_neg_one_of_neg hz]
    · have f2 : decide (z < 0) = false := by simpa using hz
      repeat' (first
        | with_reducible refine cdK_splitN (fun h => ?_) (fun h => ?_)
        | with_reducible refine gdK_splitTN (fun h => ?_) (fun h => ?_)
        | with_reducible refine gdK_splitFN (fun h => ?_) (fun h => ?_)
        | with_reducible refine cdK_split (fun h => ?_) (fun h => ?_)
        | with_reducible refine gdK_splitT (fun h => ?_) (fun h => ?_)
        | with_reducible refine gdK_splitF (fun h => ?_) (fun h => ?_)
        | simp only [go_sem, Nat.reduceBEq, Nat.reduceAdd, Nat.reduceMul, Nat.reduceSub, Nat.reduceLeDiff, Nat.reduceLT, Nat.reduceEqDiff, Int.reduceEq, Int.reduceBEq, Int.reduceBNe, Int.reduceLT, Int.reduceLE, *])
      simp [Int.sign_eq_one_of_pos (show 0 < z by omega)]
theorem neg_d (nn : Bool) (z : Int) : DCall Try.prog 133 [encI nn z] (encI nn (-z)) := by
  refine dcall_mk orders Try.func133 rfl (by kernel_rfl) (fun d => d == 2) (by kernel_rfl) rfl (fun hs => ?_)
  have ht := trim_d nn (digs z.natAbs) (!decide (z < 0)) (digs_ok _)
  rw [val_digs] at ht
  have e : (if (!decide (z < 0)) = true then -((z.natAbs : Nat) : Int) else ((z.natAbs : Nat) : Int)) = -z := by by_cases h : z < 0 <;> simp [h] <;> omega
  rw [e] at ht
  repeat' (first
    | with_reducible refine cdK_splitN (fun h => ?_) (fun h => ?_)
    | with_reducible refine gdK_splitTN (fun h => ?_) (fun h => ?_)
    | with_reducible refine gdK_splitFN (fun h => ?_) (fun h => ?_)
    | with_reducible refine cdK_split (fun h => ?_) (fun h => ?_)
    | with_reducible refine gdK_splitT (fun h => ?_) (fun h => ?_)
    | with_reducible refine gdK_splitF (fun h => ?_) (fun h => ?_)
    | refine clK_mk (ht) rfl ?_
    | simp only [go_sem, Nat.reduceBEq, Nat.reduceAdd, Nat.reduceMul, Nat.reduceSub, Nat.reduceLeDiff, Nat.reduceLT, Nat.reduceEqDiff, Int.reduceEq, Int.reduceBEq, Int.reduceBNe, Int.reduceLT, Int.reduceLE, *])
theorem abs_d (nn : Bool) (z : Int) : DCall Try.prog 153 [encI nn z] (encI nn z.natAbs) := by
  refine dcall_mk orders Try.func153 rfl (by kernel_rfl) (fun d => d == 2) (by kernel_rfl) rfl (fun hs => ?_)
  have ht := trim_d nn (digs z.natAbs) false (digs_ok _)
  rw [val_digs] at ht
  repeat' (first
    | with_reducible refine cdK_splitN (fun h => ?_) (fun h => ?_)
    | with_reducible refine gdK_splitTN (fun h => ?_) (fun h => ?_)
    | with_reducible refine gdK_splitFN (fun h => ?_) (fun h => ?_)
    | with_reducible refine cdK_split (fun h => ?_) (fun h => ?_)
    | with_reducible refine gdK_splitT (fun h => ?_) (fun h => ?_)
    | with_reducible refine gdK_splitF (fun h => ?_) (fun h => ?_)
    | refine clK_mk (ht) rfl ?_
    | simp only [go_sem, Nat.reduceBEq, Nat.reduceAdd, Nat.reduceMul, Nat.reduceSub, Nat.reduceLeDiff, Nat.reduceLT, Nat.reduceEqDiff, Int.reduceEq, Int.reduceBEq, Int.reduceBNe, Int.reduceLT, Int.reduceLE, *])

/-! sums of digits -/
theorem add32_d (x y c : Nat) (hx : x < B) (hy : y < B) (hc : c ≤ 1) : DCall Try.prog 145 [u32 x, u32 y, u32 c] (.tup [u32 ((x + y + c) % B), u32 ((x + y + c) / B)]) := by
  rw [B_eq] at hx hy
  refine dcall_mk orders Try.func145 rfl (by kernel_rfl) noMu (by kernel_rfl) rfl (fun hs => ?_)
  have e1 : (x + y) % 18446744073709551616 = x + y := Nat.mod_eq_of_lt (by omega)
  have e2 : (x + y + c) % 18446744073709551616 = x + y + c := Nat.mod_eq_of_lt (by omega)
  have e3 : (x + y + c) / 4294967296 % B = (x + y + c) / B := by rw [B_eq]; omega
  have e4 := wrap_u64_lt (n := x) (by omega)
  have e5 := wrap_u64_lt (n := y) (by omega)
  have e6 := wrap_u64_lt (n := c) (by omega)
  repeat' (first
    | with_reducible refine cdK_splitN (fun h => ?_) (fun h => ?_)
    | with_reducible refine gdK_splitTN (fun h => ?_) (fun h => ?_)
    | with_reducible refine gdK_splitFN (fun h => ?_) (fun h => ?_)
    | with_reducible refine cdK_split (fun h => ?_) (fun h => ?_)
    | with_reducible refine gdK_splitT (fun h => ?_) (fun h => ?_)
    | with_reducible refine gdK_splitF (fun h => ?_) (fun h => ?_)
    | simp only [go_sem, Nat.reduceBEq, Nat.reduceAdd, Nat.reduceMul, Nat.reduceSub, Nat.reduceLeDiff, Nat.reduceLT, Nat.reduceEqDiff, Int.reduceEq, Int.reduceBEq, Int.reduceBNe, Int.reduceLT, Int.reduceLE, *, u64_add, wrap_u32])
section
variable {P : Program} {h : Hp} (t : TypeId) (X Y : BitVec 32)
theorem wrap_bv (X : BitVec 32) : IntKind.u32.wrap (X.toNat : Int) = (X.toNat : Int) := wrap_u32_lt (by have := X.isLt; rw [B_eq]; omega)
theorem ofInt_toNat (X : BitVec 32) : BitVec.ofInt 32 (X.toNat : Int) = X := by
  apply BitVec.eq_of_toNat_eq
  have := X.isLt
  simp
theorem u32_not : unPV .xor (.t (.int .u32 (X.toNat : Int))) = some (.t (.int .u32 ((~~~X).toNat : Int))) := by
  have e1 : BitVec.ofInt IntKind.u32.bits (if IntKind.u32.signed = true then -1 else IntKind.u32.max) = BitVec.allOnes 32 := by
    show BitVec.ofInt 32 4294967295 = BitVec.allOnes 32
    decide
  have e2 : BitVec.ofInt IntKind.u32.bits (X.toNat : Int) = X := ofInt_toNat X
  have e3 : (BitVec.allOnes 32 ^^^ X) = ~~~X := BitVec.allOnes_xor
  simp only [unPV]
  rw [e1, e2]
  exact congrArg (fun z => some (PV.t (.int .u32 z))) ((congrArg (fun b : BitVec 32 => IntKind.u32.wrap (b.toNat : Int)) e3).trans (wrap_bv _))
theorem u32_and : binPV P h .and t (.t (.int .u32 (X.toNat : Int))) (.t (.int .u32 (Y.toNat : Int))) = some (.t (.int .u32 ((X &&& Y).toNat : Int))) := by
  rw [bin_and]
  have e1 : BitVec.ofInt IntKind.u32.bits (X.toNat : Int) = X := ofInt_toNat X
  have e2 : BitVec.ofInt IntKind.u32.bits (Y.toNat : Int) = Y := ofInt_toNat Y
  rw [e1, e2]
  exact congrArg (fun z => some (PV.t (.int .u32 z))) (wrap_bv _)
theorem u32_or : binPV P h .or t (.t (.int .u32 (X.toNat : Int))) (.t (.int .u32 (Y.toNat : Int))) = some (.t (.int .u32 ((X ||| Y).toNat : Int))) := by
  rw [bin_or]
  have e1 : BitVec.ofInt IntKind.u32.bits (X.toNat : Int) = X := ofInt_toNat X
  have e2 : BitVec.ofInt IntKind.u32.bits (Y.toNat : Int) = Y := ofInt_toNat Y
  rw [e1, e2]
  exact congrArg (fun z => some (PV.t (.int .u32 z))) (wrap_bv _)
theorem u32_xor : binPV P h .xor t (.t (.int .u32 (X.toNat : Int))) (.t (.int .u32 (Y.toNat : Int))) = some (.t (.int .u32 ((X ^^^ Y).toNat : Int))) := by
  rw [bin_xor]
  have e1 : BitVec.ofInt IntKind.u32.bits (X.toNat : Int) = X := ofInt_toNat X
  have e2 : BitVec.ofInt IntKind.u32.bits (Y.toNat : Int) = Y := ofInt_toNat Y
  rw [e1, e2]
  exact congrArg (fun z => some (PV.t (.int .u32 z))) (wrap_bv _)
theorem u32_sub : IntKind.u32.wrap ((X.toNat : Int) - (Y.toNat : Int)) = ((X - Y).toNat : Int) := by
  have h1 := X.isLt
  have h2 := Y.isLt
  simp [IntKind.wrap, IntKind.bits, IntKind.signed, BitVec.toNat_sub]; omega
end
theorem sub32_d (x y c : Nat) (hx : x < B) (hy : y < B) (hc : c ≤ 1) : DCall Try.prog 146 [u32 x, u32 y, u32 c] (.tup [u32 (sb x y c), u32 (bw x y c)]) := by
  unfold sb bw
  rw [B_eq] at hx hy
  obtain ⟨X, rfl⟩ : ∃ X : BitVec 32, x = X.toNat := ⟨BitVec.ofNat 32 x, by simp; omega⟩
  obtain ⟨Y, rfl⟩ : ∃ X : BitVec 32, y = X.toNat := ⟨BitVec.ofNat 32 y, by simp; omega⟩
  obtain ⟨C, rfl⟩ : ∃ X : BitVec 32, c = X.toNat := ⟨BitVec.ofNat 32 c, by simp; omega⟩
  have hD : (X - Y - C).toNat = (X.toNat + B - Y.toNat + B - C.toNat) % B := by
    have h1 := X.isLt
    have h2 := Y.isLt
    have h3 := C.isLt
    simp only [BitVec.toNat_sub, B_eq]; omega
  rw [← borrow32 X Y (X - Y - C) C.toNat hc (by rw [hD, B_eq]), ← hD]
  refine dcall_mk orders Try.func146 rfl (by kernel_rfl) noMu (by kernel_rfl) rfl (fun hs => ?_)
  clear hD
  repeat' (first
    | with_reducible refine cdK_splitN (fun h => ?_) (fun h => ?_)
    | with_reducible refine gdK_splitTN (fun h => ?_) (fun h => ?_)
    | with_reducible refine gdK_splitFN (fun h => ?_) (fun h => ?_)
    | with_reducible refine cdK_split (fun h => ?_) (fun h => ?_)
    | with_reducible refine gdK_splitT (fun h => ?_) (fun h => ?_)
    | with_reducible refine gdK_splitF (fun h => ?_) (fun h => ?_)
    | simp only [go_sem, Nat.reduceBEq, Nat.reduceAdd, Nat.reduceMul, Nat.reduceSub, Nat.reduceLeDiff, Nat.reduceLT, Nat.reduceEqDiff, Int.reduceEq, Int.reduceBEq, Int.reduceBNe, Int.reduceLT, Int.reduceLE, *, u32_not, u32_and, u32_or, u32_xor, u32_sub])

/-! sums of rows of digits -/
theorem get_headD {l : List Nat} {k : Nat} (h : k < l.length) : l[k]? = some ((l.drop k).headD 0) := by
  rw [List.getElem?_eq_getElem h, List.drop_eq_getElem_cons h]; rfl
theorem drop_headD {l : List Nat} {k : Nat} (h : ¬ k < l.length) : (l.drop k).headD 0 = 0 := by
  rw [List.drop_eq_nil_of_le (by omega)]; rfl
theorem drop_tail (l : List Nat) (k : Nat) : (l.drop k).tail = l.drop (k + 1) := by rw [List.tail_drop]
@[go_sem] theorem rep_dl (n : Nat) : List.map (Tr.int .u32) (List.replicate n 0) = dl (List.replicate n 0) := by simp [dl]
@[go_sem] theorem map_dl_set (l : List Nat) (k x : Nat) : (dl l).set k (.int .u32 (x : Int)) = dl (l.set k x) := by simp [dl, List.map_set]
@[go_sem] theorem splice_dl {k : Nat} {cur : List Nat} {x : Nat} (hk : k < cur.length) : splice ((dl cur).map .t) k [.t (.int .u32 (x : Int))] = (dl (cur.set k x)).map .t := by
  rw [splice_def', ← map_dl_set, List.map_set]
  exact set_splice _ k _ (by simpa [dl_length] using hk)
theorem take_set_succ {α : Type} (l : List α) (k : Nat) (a : α) (hk : k < l.length) : (l.set k a).take (k + 1) = l.take k ++ [a] := by
  rw [List.take_add_one, List.getElem?_set_self hk, List.take_set_of_le (Nat.le_refl _)]; rfl
theorem toTr_set {h : Hp} {id : Id} {o : Obj} {l : List Tr} {esz n : Nat} {e : TypeId} {lv : Bool} (hg : hget h id = some o) : toTr (hset h id ⟨l.map .t, esz, n, e, false, lv⟩) dep (.rf id n) = some (.sl true l) :=
  toTr_ints (esz := esz) (e := e) (lv := lv) 5 (by simp [hget_hset, hg])
theorem mod_B (n : Nat) : n % B < B := Nat.mod_lt _ B_pos
/-- plus, the longer row first -/
theorem plus_go (an bn : Bool) (a b : List Nat) (ha : okD a) (hb : okD b) (hl : b.length ≤ a.length) (hla : a.length ≤ 1000000) : DCall Try.prog 130 [.sl an (dl a), .sl bn (dl b)] (.sl true (dl (addL a b 0))) := by
  refine dcall_mk orders Try.func130 rfl (by kernel_rfl) (fun d => d == 19) (by kernel_rfl) rfl (fun hs => ?_)
  obtain ⟨N, hN⟩ : ∃ N, N = a.length + 1 := ⟨_, rfl⟩
  have f1 : decide ((a.length : Int) < (b.length : Int)) = false := decide_eq_false (by omega)
  have f2 : IntKind.i64.wrap ((a.length : Int) + 1) = (N : Int) := by rw [hN]; exact wrap_succ (by omega)
  have hN1 : N ≤ a.length + 1 := by omega
  have hN2 : a.length + 1 ≤ N := by omega
  clear hN
  repeat' (first
    | with_reducible refine cdK_splitN (fun h => ?_) (fun h => ?_)
    | with_reducible refine gdK_splitTN (fun h => ?_) (fun h => ?_)
    | with_reducible refine gdK_splitFN (fun h => ?_) (fun h => ?_)
    | with_reducible refine cdK_split (fun h => ?_) (fun h => ?_)
    | with_reducible refine gdK_splitT (fun h => ?_) (fun h => ?_)
    | with_reducible refine gdK_splitF (fun h => ?_) (fun h => ?_)
    | simp only [go_sem, Nat.reduceBEq, Nat.reduceAdd, Nat.reduceMul, Nat.reduceSub, Nat.reduceLeDiff, Nat.reduceLT, Nat.reduceEqDiff, Int.reduceEq, Int.reduceBEq, Int.reduceBNe, Int.reduceLT, Int.reduceLE, *])
  refine hpK_if ⟨by omega, by omega⟩ ?_
  repeat' (first
    | with_reducible refine cdK_splitN (fun h => ?_) (fun h => ?_)
    | with_reducible refine gdK_splitTN (fun h => ?_) (fun h => ?_)
    | with_reducible refine gdK_splitFN (fun h => ?_) (fun h => ?_)
    | with_reducible refine cdK_split (fun h => ?_) (fun h => ?_)
    | with_reducible refine gdK_splitT (fun h => ?_) (fun h => ?_)
    | with_reducible refine gdK_splitF (fun h => ?_) (fun h => ?_)
    | simp only [go_sem, Nat.reduceBEq, Nat.reduceAdd, Nat.reduceMul, Nat.reduceSub, Nat.reduceLeDiff, Nat.reduceLT, Nat.reduceEqDiff, Int.reduceEq, Int.reduceBEq, Int.reduceBNe, Int.reduceLT, Int.reduceLE, *])
  refine loop_range a (fun k s' => ∃ (cur : List Nat) (c : Nat), s'.sl 6 = .t (u32 c) ∧ hget s'.hp (19, 0) = some ⟨(dl cur).map .t, 1, N, tU32, false, true⟩ ∧ cur.length = N ∧ c ≤ 1 ∧ addL a b 0 = cur.take k ++ addL (a.drop k) (b.drop k) c) rfl rfl (by first | assumption | omega) (by kernel_rfl) (fun _ _ _ _ hj => hj) (fun _ _ _ hj => hj) ?_ (fun k x s' hx hd hk hJ hix hfr G hG => ?_) (fun s' hJ hfr => ?_)
  · exact ⟨List.replicate N 0, 0, rfl, rfl, by simp, Nat.zero_le _, by simp⟩
  · have c0 := hfr 0 (by kernel_rfl)
    have c1 := hfr 1 (by kernel_rfl)
    have c5 := hfr 5 (by kernel_rfl)
    have c21 := hfr 21 (by kernel_rfl)
    clear hfr
    simp only [go_sem, Nat.reduceBEq, Nat.reduceAdd, Nat.reduceMul, Nat.reduceSub, Nat.reduceLeDiff, Nat.reduceLT, Nat.reduceEqDiff, Int.reduceEq, Int.reduceBEq, Int.reduceBNe, Int.reduceLT, Int.reduceLE] at c0 c1 c5 c21
    change _ = PV.rf (19, 0) N at c5
    obtain ⟨cur, c, h6, h19, hcl, hc, hJ⟩ := hJ
    have hx' := List.mem_of_getElem? hx
    have hkc : k < cur.length := by omega
    have hkN : k < N := by omega
    have hkN1 : k + 1 ≤ N := hkN
    rw [hd, addL, drop_tail] at hJ
    by_cases hkb : k < b.length
    · have g1 : decide ((k : Int) < (b.length : Int)) = true := decide_eq_true (by omega)
      have g2 := get_headD hkb
      repeat' (first
        | with_reducible refine cdK_splitN (fun h => ?_) (fun h => ?_)
        | with_reducible refine gdK_splitTN (fun h => ?_) (fun h => ?_)
        | with_reducible refine gdK_splitFN (fun h => ?_) (fun h => ?_)
        | with_reducible refine cdK_split (fun h => ?_) (fun h => ?_)
        | with_reducible refine gdK_splitT (fun h => ?_) (fun h => ?_)
        | with_reducible refine gdK_splitF (fun h => ?_) (fun h => ?_)
        | refine clK_mk (add32_d x ((b.drop k).headD 0) c (ha x hx') (okD_head (okD_drop hb k)) hc) rfl ?_
        | simp only [go_sem, Nat.reduceBEq, Nat.reduceAdd, Nat.reduceMul, Nat.reduceSub, Nat.reduceLeDiff, Nat.reduceLT, Nat.reduceEqDiff, Int.reduceEq, Int.reduceBEq, Int.reduceBNe, Int.reduceLT, Int.reduceLE, *])
      refine hG _ ⟨cur.set k ((x + (b.drop k).headD 0 + c) % B), (x + (b.drop k).headD 0 + c) / B, rfl, ?_, by simp [hcl], ?_, ?_⟩
      · simp only [go_sem, Nat.reduceBEq, Nat.reduceAdd, Nat.reduceMul, Nat.reduceSub, Nat.reduceLeDiff, Nat.reduceLT, Nat.reduceEqDiff, Int.reduceEq, Int.reduceBEq, Int.reduceBNe, Int.reduceLT, Int.reduceLE, h19]
      · have h1 := ha x hx'
        have h2 := okD_head (okD_drop hb k)
        have := (Nat.div_lt_iff_lt_mul B_pos).2 (show x + (b.drop k).headD 0 + c < 2 * B by omega)
        omega
      · rw [take_set_succ _ _ _ hkc, hJ]; simp
    · have g1 : decide ((k : Int) < (b.length : Int)) = false := decide_eq_false (by omega)
      have g2 := drop_headD hkb
      rw [g2] at hJ
      repeat' (first
        | with_reducible refine cdK_splitN (fun h => ?_) (fun h => ?_)
        | with_reducible refine gdK_splitTN (fun h => ?_) (fun h => ?_)
        | with_reducible refine gdK_splitFN (fun h => ?_) (fun h => ?_)
        | with_reducible refine cdK_split (fun h => ?_) (fun h => ?_)
        | with_reducible refine gdK_splitT (fun h => ?_) (fun h => ?_)
        | with_reducible refine gdK_splitF (fun h => ?_) (fun h => ?_)
        | refine clK_mk (add32_d x 0 c (ha x hx') B_pos hc) rfl ?_
        | simp only [go_sem, Nat.reduceBEq, Nat.reduceAdd, Nat.reduceMul, Nat.reduceSub, Nat.reduceLeDiff, Nat.reduceLT, Nat.reduceEqDiff, Int.reduceEq, Int.reduceBEq, Int.reduceBNe, Int.reduceLT, Int.reduceLE, *])
      refine hG _ ⟨cur.set k ((x + 0 + c) % B), (x + 0 + c) / B, rfl, ?_, by simp [hcl], ?_, ?_⟩
      · simp only [go_sem, Nat.reduceBEq, Nat.reduceAdd, Nat.reduceMul, Nat.reduceSub, Nat.reduceLeDiff, Nat.reduceLT, Nat.reduceEqDiff, Int.reduceEq, Int.reduceBEq, Int.reduceBNe, Int.reduceLT, Int.reduceLE, h19]
      · have h1 := ha x hx'
        have := (Nat.div_lt_iff_lt_mul B_pos).2 (show x + 0 + c < 2 * B by omega)
        omega
      · rw [take_set_succ _ _ _ hkc, hJ]; simp
  · obtain ⟨cur, c, h6, h19, hcl, hc, hJ⟩ := hJ
    have c0 := hfr 0 (by kernel_rfl)
    have c5 := hfr 5 (by kernel_rfl)
    clear hfr
    simp only [go_sem, Nat.reduceBEq, Nat.reduceAdd, Nat.reduceMul, Nat.reduceSub, Nat.reduceLeDiff, Nat.reduceLT, Nat.reduceEqDiff, Int.reduceEq, Int.reduceBEq, Int.reduceBNe, Int.reduceLT, Int.reduceLE] at c0 c5
    change _ = PV.rf (19, 0) N at c5
    have hkN : a.length < N := by omega
    have hkc : a.length < cur.length := by omega
    rw [List.drop_length, addL] at hJ
    have e : cur.set a.length c = cur.take a.length ++ [c] := by
      have := take_set_succ cur a.length c hkc
      rw [← this, List.take_of_length_le (by simp; omega)]
    rw [hJ, ← e]
    clear hJ
    repeat' (first
      | with_reducible refine cdK_splitN (fun h => ?_) (fun h => ?_)
      | with_reducible refine gdK_splitTN (fun h => ?_) (fun h => ?_)
      | with_reducible refine gdK_splitFN (fun h => ?_) (fun h => ?_)
      | with_reducible refine cdK_split (fun h => ?_) (fun h => ?_)
      | with_reducible refine gdK_splitT (fun h => ?_) (fun h => ?_)
      | with_reducible refine gdK_splitF (fun h => ?_) (fun h => ?_)
      | simp only [go_sem, Nat.reduceBEq, Nat.reduceAdd, Nat.reduceMul, Nat.reduceSub, Nat.reduceLeDiff, Nat.reduceLT, Nat.reduceEqDiff, Int.reduceEq, Int.reduceBEq, Int.reduceBNe, Int.reduceLT, Int.reduceLE, *])
    exact toTr_set h19
theorem plus_swap (an bn : Bool) (a b : List Nat) (ha : okD a) (hb : okD b) (hl : a.length < b.length) (hla : b.length ≤ 1000000) : DCall Try.prog 130 [.sl an (dl a), .sl bn (dl b)] (.sl true (dl (addL b a 0))) := by
  refine dcall_mk orders Try.func130 rfl (by kernel_rfl) (fun d => d == 19) (by kernel_rfl) rfl (fun hs => ?_)
  obtain ⟨N, hN⟩ : ∃ N, N = b.length + 1 := ⟨_, rfl⟩
  have f1 : decide ((a.length : Int) < (b.length : Int)) = true := decide_eq_true (by omega)
  have f2 : IntKind.i64.wrap ((b.length : Int) + 1) = (N : Int) := by rw [hN]; exact wrap_succ (by omega)
  have hN1 : N ≤ b.length + 1 := by omega
  have hN2 : b.length + 1 ≤ N := by omega
  clear hN
  repeat' (first
    | with_reducible refine cdK_splitN (fun h => ?_) (fun h => ?_)
    | with_reducible refine gdK_splitTN (fun h => ?_) (fun h => ?_)
    | with_reducible refine gdK_splitFN (fun h => ?_) (fun h => ?_)
    | with_reducible refine cdK_split (fun h => ?_) (fun h => ?_)
    | with_reducible refine gdK_splitT (fun h => ?_) (fun h => ?_)
    | with_reducible refine gdK_splitF (fun h => ?_) (fun h => ?_)
    | simp only [go_sem, Nat.reduceBEq, Nat.reduceAdd, Nat.reduceMul, Nat.reduceSub, Nat.reduceLeDiff, Nat.reduceLT, Nat.reduceEqDiff, Int.reduceEq, Int.reduceBEq, Int.reduceBNe, Int.reduceLT, Int.reduceLE, *])
  refine hpK_if ⟨by omega, by omega⟩ ?_
  repeat' (first
    | with_reducible refine cdK_splitN (fun h => ?_) (fun h => ?_)
    | with_reducible refine gdK_splitTN (fun h => ?_) (fun h => ?_)
    | with_reducible refine gdK_splitFN (fun h => ?_) (fun h => ?_)
    | with_reducible refine cdK_split (fun h => ?_) (fun h => ?_)
    | with_reducible refine gdK_splitT (fun h => ?_) (fun h => ?_)
    | with_reducible refine gdK_splitF (fun h => ?_) (fun h => ?_)
    | simp only [go_sem, Nat.reduceBEq, Nat.reduceAdd, Nat.reduceMul, Nat.reduceSub, Nat.reduceLeDiff, Nat.reduceLT, Nat.reduceEqDiff, Int.reduceEq, Int.reduceBEq, Int.reduceBNe, Int.reduceLT, Int.reduceLE, *])
  refine loop_range b (fun k s' => ∃ (cur : List Nat) (c : Nat), s'.sl 6 = .t (u32 c) ∧ hget s'.hp (19, 0) = some ⟨(dl cur).map .t, 1, N, tU32, false, true⟩ ∧ cur.length = N ∧ c ≤ 1 ∧ addL b a 0 = cur.take k ++ addL (b.drop k) (a.drop k) c) rfl rfl (by first | assumption | omega) (by kernel_rfl) (fun _ _ _ _ hj => hj) (fun _ _ _ hj => hj) ?_ (fun k x s' hx hd hk hJ hix hfr G hG => ?_) (fun s' hJ hfr => ?_)
  · exact ⟨List.replicate N 0, 0, rfl, rfl, by simp, Nat.zero_le _, by simp⟩
  · have c0 := hfr 0 (by kernel_rfl)
    have c1 := hfr 1 (by kernel_rfl)
    have c5 := hfr 5 (by kernel_rfl)
    have c21 := hfr 21 (by kernel_rfl)
    clear hfr
    simp only [go_sem, Nat.reduceBEq, Nat.reduceAdd, Nat.reduceMul, Nat.reduceSub, Nat.reduceLeDiff, Nat.reduceLT, Nat.reduceEqDiff, Int.reduceEq, Int.reduceBEq, Int.reduceBNe, Int.reduceLT, Int.reduceLE] at c0 c1 c5 c21
    change _ = PV.rf (19, 0) N at c5
    obtain ⟨cur, c, h6, h19, hcl, hc, hJ⟩ := hJ
    have hx' := List.mem_of_getElem? hx
    have hkc : k < cur.length := by omega
    have hkN : k < N := by omega
    have hkN1 : k + 1 ≤ N := hkN
    rw [hd, addL, drop_tail] at hJ
    by_cases hkb : k < a.length
    · have g1 : decide ((k : Int) < (a.length : Int)) = true := decide_eq_true (by omega)
      have g2 := get_headD hkb
      repeat' (first
        | with_reducible refine cdK_splitN (fun h => ?_) (fun h => ?_)
        | with_reducible refine gdK_splitTN (fun h => ?_) (fun h => ?_)
        | with_reducible refine gdK_splitFN (fun h => ?_) (fun h => ?_)
        | with_reducible refine cdK_split (fun h => ?_) (fun h => ?_)
        | with_reducible refine gdK_splitT (fun h => ?_) (fun h => ?_)
        | with_reducible refine gdK_splitF (fun h => ?_) (fun h => ?_)
        | refine clK_mk (add32_d x ((a.drop k).headD 0) c (hb x hx') (okD_head (okD_drop ha k)) hc) rfl ?_
        | simp only [go_sem, Nat.reduceBEq, Nat.reduceAdd, Nat.reduceMul, Nat.reduceSub, Nat.reduceLeDiff, Nat.reduceLT, Nat.reduceEqDiff, Int.reduceEq, Int.reduceBEq, Int.reduceBNe, Int.reduceLT, Int.reduceLE, *])
      refine hG _ ⟨cur.set k ((x + (a.drop k).headD 0 + c) % B), (x + (a.drop k).headD 0 + c) / B, rfl, ?_, by simp [hcl], ?_, ?_⟩
      · simp only [go_sem, Nat.reduceBEq, Nat.reduceAdd, Nat.reduceMul, Nat.reduceSub, Nat.reduceLeDiff, Nat.reduceLT, Nat.reduceEqDiff, Int.reduceEq, Int.reduceBEq, Int.reduceBNe, Int.reduceLT, Int.reduceLE, h19]
      · have h1 := hb x hx'
        have h2 := okD_head (okD_drop ha k)
        have := (Nat.div_lt_iff_lt_mul B_pos).2 (show x + (a.drop k).headD 0 + c < 2 * B by omega)
        omega
      · rw [take_set_succ _ _ _ hkc, hJ]; simp
    · have g1 : decide ((k : Int) < (a.length : Int)) = false := decide_eq_false (by omega)
      have g2 := drop_headD hkb
      rw [g2] at hJ
      repeat' (first
        | with_reducible refine cdK_splitN (fun h => ?_) (fun h => ?_)
        | with_reducible refine gdK_splitTN (fun h => ?_) (fun h => ?_)
        | with_reducible refine gdK_splitFN (fun h => ?_) (fun h => ?_)
        | with_reducible refine cdK_split (fun h => ?_) (fun h => ?_)
        | with_reducible refine gdK_splitT (fun h => ?_) (fun h => ?_)
        | with_reducible refine gdK_splitF (fun h => ?_) (fun h => ?_)
        | refine clK_mk (add32_d x 0 c (hb x hx') B_pos hc) rfl ?_
        | simp only [go_sem, Nat.reduceBEq, Nat.reduceAdd, Nat.reduceMul, Nat.reduceSub, Nat.reduceLeDiff, Nat.reduceLT, Nat.reduceEqDiff, Int.reduceEq, Int.reduceBEq, Int.reduceBNe, Int.reduceLT, Int.reduceLE, *])
      refine hG _ ⟨cur.set k ((x + 0 + c) % B), (x + 0 + c) / B, rfl, ?_, by simp [hcl], ?_, ?_⟩
      · simp only [go_sem, Nat.reduceBEq, Nat.reduceAdd, Nat.reduceMul, Nat.reduceSub, Nat.reduceLeDiff, Nat.reduceLT, Nat.reduceEqDiff, Int.reduceEq, Int.reduceBEq, Int.reduceBNe, Int.reduceLT, Int.reduceLE, h19]
      · have h1 := hb x hx'
        have := (Nat.div_lt_iff_lt_mul B_pos).2 (show x + 0 + c < 2 * B by omega)
        omega
      · rw [take_set_succ _ _ _ hkc, hJ]; simp
  · obtain ⟨cur, c, h6, h19, hcl, hc, hJ⟩ := hJ
    have c0 := hfr 0 (by kernel_rfl)
    have c5 := hfr 5 (by kernel_rfl)
    clear hfr
    simp only [go_sem, Nat.reduceBEq, Nat.reduceAdd, Nat.reduceMul, Nat.reduceSub, Nat.reduceLeDiff, Nat.reduceLT, Nat.reduceEqDiff, Int.reduceEq, Int.reduceBEq, Int.reduceBNe, Int.reduceLT, Int.reduceLE] at c0 c5
    change _ = PV.rf (19, 0) N at c5
    have hkN : b.length < N := by omega
    have hkc : b.length < cur.length := by omega
    rw [List.drop_length, addL] at hJ
    have e : cur.set b.length c = cur.take b.length ++ [c] := by
      have := take_set_succ cur b.length c hkc
      rw [← this, List.take_of_length_le (by simp; omega)]
    rw [hJ, ← e]
    clear hJ
    repeat' (first
      | with_reducible refine cdK_splitN (fun h => ?_) (fun h => ?_)
      | with_reducible refine gdK_splitTN (fun h => ?_) (fun h => ?_)
      | with_reducible refine gdK_splitFN (fun h => ?_) (fun h => ?_)
      | with_reducible refine cdK_split (fun h => ?_) (fun h => ?_)
      | with_reducible refine gdK_splitT (fun h => ?_) (fun h => ?_)
      | with_reducible refine gdK_splitF (fun h => ?_) (fun h => ?_)
      | simp only [go_sem, Nat.reduceBEq, Nat.reduceAdd, Nat.reduceMul, Nat.reduceSub, Nat.reduceLeDiff, Nat.reduceLT, Nat.reduceEqDiff, Int.reduceEq, Int.reduceBEq, Int.reduceBNe, Int.reduceLT, Int.reduceLE, *])
    exact toTr_set h19
/-- plus: a row of digits whose value is the sum -/
theorem plus_d (an bn : Bool) (a b : List Nat) (ha : okD a) (hb : okD b) (hla : a.length ≤ 1000000) (hlb : b.length ≤ 1000000) : ∃ r, okD r ∧ val r = val a + val b ∧ DCall Try.prog 130 [.sl an (dl a), .sl bn (dl b)] (.sl true (dl r)) := by
  by_cases h : a.length < b.length
  · obtain ⟨h1, h2, _⟩ := addL_spec hb ha (Nat.zero_le 1) (Nat.le_of_lt h)
    exact ⟨_, h2, by omega, plus_swap an bn a b ha hb h hlb⟩
  · obtain ⟨h1, h2, _⟩ := addL_spec ha hb (Nat.zero_le 1) (by omega)
    exact ⟨_, h2, by omega, plus_go an bn a b ha hb (by omega) hla⟩
end Ytajgclnahfmfmaa
end Go.Vm
