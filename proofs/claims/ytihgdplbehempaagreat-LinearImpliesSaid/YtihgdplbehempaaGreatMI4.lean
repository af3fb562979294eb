import Derived.Test.YtihgdplbehempaaGreatMI3
set_option linter.unusedSimpArgs false
set_option linter.unusedVariables false
section
set_option linter.unusedSimpArgs false
set_option maxRecDepth 10000
namespace Go.Vm
open Go Go.Proofs Go.Whole
namespace YtihgdplbehempaaGreat
open Go.Proofs.Tryz
attribute [go_sem] Tryz.results223 Tryz.results157 Tryz.results154 Tryz.results161 Tryz.results212 Tryz.results266 Tryz.results252 Tryz.results259 Tryz.results253 Tryz.results268 Tryz.results267 Tryz.results222 Tryz.results224 Tryz.results156 Tryz.results155
abbrev tWInt : TypeId := 129
abbrev tU32 : TypeId := 215
theorem wrap_u32 (n : Nat) : IntKind.u32.wrap (n : Int) = ((n % B : Nat) : Int) := by
  simp [IntKind.wrap, IntKind.bits, IntKind.signed, B_eq]
theorem wrap_u64 (n : Nat) : IntKind.u64.wrap (n : Int) = ((n % 18446744073709551616 : Nat) : Int) := by
  simp [IntKind.wrap, IntKind.bits, IntKind.signed]
theorem wrap_u32_lt {n : Nat} (h : n < B) : IntKind.u32.wrap (n : Int) = (n : Int) := by rw [wrap_u32, Nat.mod_eq_of_lt h]
theorem wrap_u64_lt {n : Nat} (h : n < 18446744073709551616) : IntKind.u64.wrap (n : Int) = (n : Int) := by rw [wrap_u64, Nat.mod_eq_of_lt h]
theorem u64_add (a b : Nat) : IntKind.u64.wrap ((a : Int) + (b : Int)) = (((a + b) % 18446744073709551616 : Nat) : Int) := by rw [← Int.natCast_add, wrap_u64]
theorem u64_mul (a b : Nat) : IntKind.u64.wrap ((a : Int) * (b : Int)) = (((a * b) % 18446744073709551616 : Nat) : Int) := by rw [← Int.natCast_mul, wrap_u64]
theorem fdiv_nat (a b : Nat) : (a : Int).fdiv (b : Int) = ((a / b : Nat) : Int) := by
  rw [Int.fdiv_eq_ediv_of_nonneg _ (Int.natCast_nonneg b), Int.natCast_ediv]
theorem shr_nat (a s m : Nat) : (a : Int).fdiv (2 ^ (min s m)) = ((a / 2 ^ (min s m) : Nat) : Int) := by
  have : (2 : Int) ^ (min s m) = ((2 ^ (min s m) : Nat) : Int) := by simp
  rw [this, fdiv_nat]
section
variable {P : Program} {h : Hp} (t : TypeId) (n : Nat) (k' : IntKind)
@[go_sem high] theorem shr_u64 : binPV P h .shr t (.t (.int .u64 (n : Int))) (.t (.int k' 32)) = some (.t (.int .u64 ((n / 4294967296 : Nat) : Int))) := by
  rw [bin_shr, if_neg (by decide)]
  have : (n : Int).fdiv (2 ^ (min (Int.toNat 32) IntKind.u64.bits)) = ((n / 4294967296 : Nat) : Int) := fdiv_nat n 4294967296
  rw [this]
@[go_sem high] theorem shr_u32 : binPV P h .shr t (.t (.int .u32 (n : Int))) (.t (.int k' 31)) = some (.t (.int .u32 ((n / 2147483648 : Nat) : Int))) := by
  rw [bin_shr, if_neg (by decide)]
  have : (n : Int).fdiv (2 ^ (min (Int.toNat 31) IntKind.u32.bits)) = ((n / 2147483648 : Nat) : Int) := fdiv_nat n 2147483648
  rw [this]
end
theorem dl_length (l : List Nat) : (dl l).length = l.length := List.length_map _
theorem dl_get (l : List Nat) (i : Nat) : (dl l)[i]? = (l[i]?).map u32 := List.getElem?_map ..
theorem dl_take (l : List Nat) (i : Nat) : (dl l).take i = dl (l.take i) := (List.map_take ..).symm
theorem dl_nil : dl [] = [] := rfl
theorem dl_append (a b : List Nat) : dl (a ++ b) = dl a ++ dl b := List.map_append
theorem sized_dl (l : List Nat) : sizedL (dl l) = true := by induction l with | nil => rfl | cons a l ih => simpa [dl, sizedL, Tr.sized, u32] using ih
theorem flat_dl (l : List Nat) : flat (dl l) = dl l := by induction l with | nil => rfl | cons a l ih => simpa [dl, flat, Tr.cells] using ih
theorem toNat_zero' : Int.toNat 0 = 0 := rfl
attribute [go_sem] dl_length dl_get sized_dl flat_dl toNat_zero'
theorem strip_snoc : ∀ (a : List Nat) (x : Nat), strip (a ++ [x]) = if x = 0 then strip a else a ++ [x]
  | [], x => by simp [strip]
  | d :: a, x => by
    simp only [List.cons_append, strip, strip_snoc a x]
    by_cases h : x = 0
    · simp [h]
    · simp [h]
theorem snoc_cases (l : List Nat) : l = [] ∨ ∃ a x, l = a ++ [x] := by
  rcases List.eq_nil_or_concat l with h | ⟨a, x, h⟩
  · exact .inl h
  · exact .inr ⟨a, x, by simpa using h⟩
theorem wrap_len {n : Nat} (h : n < 9223372036854775807) : IntKind.i64.wrap (((n + 1 : Nat) : Int) - 1) = (n : Int) := by
  rw [show ((n + 1 : Nat) : Int) - 1 = (n : Int) by omega]
  exact wrap_i64 (by omega) (by omega)
theorem trim_raw (nn : Bool) (l : List Nat) (neg : Bool) : DCall Tryz.prog 223 [.sl nn (dl l), .bool neg] (.agg [.sl nn (dl (strip l)), .bool (neg && !(strip l).isEmpty)]) := by
  refine dcall_mk orders Tryz.func223 rfl (by kernel_rfl) (fun d => d == 4) (by kernel_rfl) rfl (fun hs => ?_)
  simp [sizedL, Tr.sized, sized_dl, dl_length] at hs
  repeat' (first
    | (with_reducible first | refine sA ?_ ?_ | refine sB ?_ ?_ | refine sC ?_ ?_ | refine sD ?_ ?_ | refine sE ?_ ?_ | refine sF ?_ ?_) <;> intro h
    | simp only [go_sem, *])
  refine loop_mk (fun m s' => ∃ l', m = l'.length ∧ s'.sl 0 = .t (.sl nn (dl l')) ∧ hget s'.hp (4, 0) = some ⟨[.t (.sl false []), .t (.bool false)], 2, 1, tWInt, true, true⟩ ∧ strip l' = strip l ∧ l'.length ≤ l.length) l.length ⟨l, rfl, rfl, rfl, rfl, Nat.le_refl _⟩ ?_
  rintro _ s' ⟨l', rfl, h0, h4, hl, hle⟩ hfr G hG
  have c1 := hfr 1 (by kernel_rfl)
  have c4 := hfr 4 (by kernel_rfl)
  clear hfr
  simp only [go_sem] at c1 c4
  change _ = PV.ad (4, 0) 1 0 at c4
  rcases snoc_cases l' with rfl | ⟨a, x, rfl⟩
  · have f1 : decide (((0 : Nat) : Int) > 0) = false := rfl
    have hl' : strip l = [] := by rw [← hl]; rfl
    rw [hl']
    repeat' (first
      | (with_reducible first | refine sA ?_ ?_ | refine sB ?_ ?_ | refine sC ?_ ?_ | refine sD ?_ ?_ | refine sE ?_ ?_ | refine sF ?_ ?_) <;> intro h
      | simp only [go_sem, *])
    all_goals simp
  · have hle' : a.length + 1 ≤ l.length := by simpa using hle
    have f1 : decide (((a.length + 1 : Nat) : Int) > 0) = true := decide_eq_true (by omega)
    have f2 := wrap_len (n := a.length) (by omega)
    have f3 : (dl (a ++ [x])).length = a.length + 1 := by simp [dl_length]
    have f4 : (a ++ [x])[a.length]? = some x := by simp
    have f5 : (dl (a ++ [x])).take a.length = dl a := by simp [dl_take]
    have f6 : (x : Int) = 0 ↔ x = 0 := by omega
    rw [strip_snoc] at hl
    have f7 : (a.length : Int) ≤ ((a.length + 1 : Nat) : Int) := by omega
    by_cases hx : x = 0
    · subst hx
      rw [if_pos rfl] at hl
      have f8 : (((0 : Nat) : Int) == 0) = true := rfl
      repeat' (first
        | (with_reducible first | refine sA ?_ ?_ | refine sB ?_ ?_ | refine sC ?_ ?_ | refine sD ?_ ?_ | refine sE ?_ ?_ | refine sF ?_ ?_) <;> intro h
        | simp only [go_sem, *])
      refine hG _ _ (by simp) ⟨a, rfl, rfl, h4, hl, by omega⟩
    · rw [if_neg hx] at hl
      have f8 : ((x : Int) == 0) = false := by simpa using hx
      have f9 : (a ++ [x]).isEmpty = false := by simp
      rw [← hl]
      clear hl
      repeat' (first
        | (with_reducible first | refine sA ?_ ?_ | refine sB ?_ ?_ | refine sC ?_ ?_ | refine sD ?_ ?_ | refine sE ?_ ?_ | refine sF ?_ ?_) <;> intro h
        | simp only [go_sem, *])
      all_goals simp
attribute [go_sem] encI intC
theorem trim_d (nn : Bool) (l : List Nat) (neg : Bool) (h : okD l) : DCall Tryz.prog 223 [.sl nn (dl l), .bool neg] (encI nn (if neg then -(val l : Int) else val l)) := by
  have := trim_raw nn l neg
  rw [strip_digs h] at this
  have e : encI nn (if neg then -(val l : Int) else val l) = .agg [.sl nn (dl (digs (val l))), .bool (neg && !(digs (val l)).isEmpty)] := by
    unfold encI intC
    have e1 : (if neg then -(val l : Int) else val l).natAbs = val l := by cases neg <;> simp
    have e2 : decide ((if neg then -(val l : Int) else val l) < 0) = (neg && !(digs (val l)).isEmpty) := by
      cases neg
      · simp
      · by_cases hv : val l = 0
        · rw [hv]; simp [digs_zero]
        · have : (digs (val l)).isEmpty = false := by
            cases he : digs (val l) with
            | nil => exact absurd (digs_nil.1 he) hv
            | cons => rfl
          simp [this]; omega
    rw [e1, e2]
  rw [e]; exact this
theorem from_d (n : Nat) (hn : n < 18446744073709551616) : DCall Tryz.prog 154 [.int .u64 n] (encI true n) := by
  refine dcall_mk orders Tryz.func154 rfl (by kernel_rfl) (fun d => d == 2) (by kernel_rfl) rfl (fun hs => ?_)
  have h1 : n / 4294967296 % B = n / 4294967296 := Nat.mod_eq_of_lt (by rw [B_eq]; omega)
  have ht := trim_d true [n % B, n / 4294967296] false (by rw [okD_cons, okD_cons]; exact ⟨Nat.mod_lt _ B_pos, by rw [B_eq]; omega, okD_nil⟩)
  have hv : ((val [n % B, n / 4294967296] : Nat) : Int) = n := by
    have : val [n % B, n / 4294967296] = n := by simp only [val, B_eq]; omega
    rw [this]
  simp only [Bool.false_eq_true, if_false, hv] at ht
  repeat' (first
    | (with_reducible first | refine sA ?_ ?_ | refine sB ?_ ?_ | refine sC ?_ ?_ | refine sD ?_ ?_ | refine sE ?_ ?_ | refine sF ?_ ?_) <;> intro h
    | refine clK_mk (ht) rfl ?_
    | simp only [go_sem, *, wrap_u32])
def inI64 (z : Int) : Prop := -9223372036854775808 ≤ z ∧ z ≤ 9223372036854775807
theorem wrap_u64_neg {z : Int} (h : -9223372036854775808 ≤ z) (hz : z < 0) : IntKind.u64.wrap z = ((18446744073709551616 - z.natAbs : Nat) : Int) := by
  simp [IntKind.wrap, IntKind.bits, IntKind.signed]; omega
theorem wrap_u64_sub {n : Nat} (h : n ≤ 18446744073709551616) (h0 : 0 < n) : IntKind.u64.wrap (0 - ((18446744073709551616 - n : Nat) : Int)) = ((n % 18446744073709551616 : Nat) : Int) := by
  simp [IntKind.wrap, IntKind.bits, IntKind.signed]; omega
theorem wrap_u64_pos {z : Int} (h : z ≤ 9223372036854775807) (hz : 0 ≤ z) : IntKind.u64.wrap z = (z.natAbs : Int) := by
  simp [IntKind.wrap, IntKind.bits, IntKind.signed]; omega
theorem of_d (z : Int) (h : inI64 z) : DCall Tryz.prog 157 [i64 z] (encI true z) := by
  obtain ⟨h1, h2⟩ := h
  refine dcall_mk orders Tryz.func157 rfl (by kernel_rfl) (fun d => d == 2 || d == 3) (by kernel_rfl) rfl (fun hs => ?_)
  by_cases hz : z < 0
  · have f0 : decide (z < 0) = true := by simpa using hz
    have f1 := wrap_u64_neg h1 hz
    have f2 := wrap_u64_sub (n := z.natAbs) (by omega) (by omega)
    rw [Nat.mod_eq_of_lt (by omega)] at f2
    have f3 : (((z.natAbs : Nat) : Int)).natAbs = z.natAbs := by omega
    repeat' (first
      | (with_reducible first | refine sA ?_ ?_ | refine sB ?_ ?_ | refine sC ?_ ?_ | refine sD ?_ ?_ | refine sE ?_ ?_ | refine sF ?_ ?_) <;> intro h
      | refine clK_mk (from_d _ (show 18446744073709551616 - z.natAbs < 18446744073709551616 by omega)) rfl ?_
      | refine clK_mk (from_d z.natAbs (by omega)) rfl ?_
      | simp only [go_sem, *])
  · have f0 : decide (z < 0) = false := by simpa using hz
    have f1 := wrap_u64_pos h2 (by omega)
    have f3 : (((z.natAbs : Nat) : Int)).natAbs = z.natAbs := by omega
    have f4 : decide (((z.natAbs : Nat) : Int) < 0) = false := decide_eq_false (by omega)
    repeat' (first
      | (with_reducible first | refine sA ?_ ?_ | refine sB ?_ ?_ | refine sC ?_ ?_ | refine sD ?_ ?_ | refine sE ?_ ?_ | refine sF ?_ ?_) <;> intro h
      | refine clK_mk (from_d z.natAbs (by omega)) rfl ?_
      | simp only [go_sem, *])
theorem sign_d (nn : Bool) (z : Int) : DCall Tryz.prog 161 [encI nn z] (i64 z.sign) := by
  refine dcall_mk orders Tryz.func161 rfl (by kernel_rfl) noMu (by kernel_rfl) rfl (fun hs => ?_)
  by_cases h0 : z = 0
  · subst h0
    have f1 : (((digs (Int.natAbs 0)).length : Int) == 0) = true := by rw [show Int.natAbs 0 = 0 from rfl, digs_zero]; rfl
    repeat' (first
      | (with_reducible first | refine sA ?_ ?_ | refine sB ?_ ?_ | refine sC ?_ ?_ | refine sD ?_ ?_ | refine sE ?_ ?_ | refine sF ?_ ?_) <;> intro h
      | simp only [go_sem, *])
    rfl
  · have f1 : (((digs z.natAbs).length : Int) == 0) = false := by
      have : digs z.natAbs ≠ [] := fun e => h0 (by have := digs_nil.1 e; omega)
      cases he : digs z.natAbs with
      | nil => exact absurd he this
      | cons => simp; omega
    by_cases hz : z < 0
    · have f2 : decide (z < 0) = true := by simpa using hz
      repeat' (first
        | (with_reducible first | refine sA ?_ ?_ | refine sB ?_ ?_ | refine sC ?_ ?_ | refine sD ?_ ?_ | refine sE ?_ ?_ | refine sF ?_ ?_) <;> intro h
        | simp only [go_sem, *])
      simp [Int.sign_eq_neg_one_of_neg hz]
    · have f2 : decide (z < 0) = false := by simpa using hz
      repeat' (first
        | (with_reducible first | refine sA ?_ ?_ | refine sB ?_ ?_ | refine sC ?_ ?_ | refine sD ?_ ?_ | refine sE ?_ ?_ | refine sF ?_ ?_) <;> intro h
        | simp only [go_sem, *])
      simp [Int.sign_eq_one_of_pos (show 0 < z by omega)]
theorem neg_d (nn : Bool) (z : Int) : DCall Tryz.prog 212 [encI nn z] (encI nn (-z)) := by
  refine dcall_mk orders Tryz.func212 rfl (by kernel_rfl) (fun d => d == 2) (by kernel_rfl) rfl (fun hs => ?_)
  have ht := trim_d nn (digs z.natAbs) (!decide (z < 0)) (digs_ok _)
  rw [val_digs] at ht
  have e : (if (!decide (z < 0)) = true then -((z.natAbs : Nat) : Int) else ((z.natAbs : Nat) : Int)) = -z := by by_cases h : z < 0 <;> simp [h] <;> omega
  rw [e] at ht
  repeat' (first
    | (with_reducible first | refine sA ?_ ?_ | refine sB ?_ ?_ | refine sC ?_ ?_ | refine sD ?_ ?_ | refine sE ?_ ?_ | refine sF ?_ ?_) <;> intro h
    | refine clK_mk (ht) rfl ?_
    | simp only [go_sem, *])
theorem abs_d (nn : Bool) (z : Int) : DCall Tryz.prog 266 [encI nn z] (encI nn z.natAbs) := by
  refine dcall_mk orders Tryz.func266 rfl (by kernel_rfl) (fun d => d == 2) (by kernel_rfl) rfl (fun hs => ?_)
  have ht := trim_d nn (digs z.natAbs) false (digs_ok _)
  rw [val_digs] at ht
  repeat' (first
    | (with_reducible first | refine sA ?_ ?_ | refine sB ?_ ?_ | refine sC ?_ ?_ | refine sD ?_ ?_ | refine sE ?_ ?_ | refine sF ?_ ?_) <;> intro h
    | refine clK_mk (ht) rfl ?_
    | simp only [go_sem, *])
theorem add32_d (x y c : Nat) (hx : x < B) (hy : y < B) (hc : c ≤ 1) : DCall Tryz.prog 268 [u32 x, u32 y, u32 c] (.tup [u32 ((x + y + c) % B), u32 ((x + y + c) / B)]) := by
  rw [B_eq] at hx hy
  refine dcall_mk orders Tryz.func268 rfl (by kernel_rfl) noMu (by kernel_rfl) rfl (fun hs => ?_)
  have e1 : (x + y) % 18446744073709551616 = x + y := Nat.mod_eq_of_lt (by omega)
  have e2 : (x + y + c) % 18446744073709551616 = x + y + c := Nat.mod_eq_of_lt (by omega)
  have e3 : (x + y + c) / 4294967296 % B = (x + y + c) / B := by rw [B_eq]; omega
  have e4 := wrap_u64_lt (n := x) (by omega)
  have e5 := wrap_u64_lt (n := y) (by omega)
  have e6 := wrap_u64_lt (n := c) (by omega)
  repeat' (first
    | (with_reducible first | refine sA ?_ ?_ | refine sB ?_ ?_ | refine sC ?_ ?_ | refine sD ?_ ?_ | refine sE ?_ ?_ | refine sF ?_ ?_) <;> intro h
    | simp only [go_sem, *, u64_add, wrap_u32])
section
variable {P : Program} {h : Hp} (t : TypeId) (X Y : BitVec 32)
theorem wrap_bv (X : BitVec 32) : IntKind.u32.wrap (X.toNat : Int) = (X.toNat : Int) := wrap_u32_lt (by have := X.isLt; rw [B_eq]; omega)
theorem ofInt_toNat (X : BitVec 32) : BitVec.ofInt 32 (X.toNat : Int) = X := by
  apply BitVec.eq_of_toNat_eq
  have := X.isLt
  simp
theorem u32_not : unPV .xor (.t (.int .u32 (X.toNat : Int))) = some (.t (.int .u32 ((~~~X).toNat : Int))) := by
  have e1 : BitVec.ofInt IntKind.u32.bits (if IntKind.u32.signed = true then -1 else IntKind.u32.max) = BitVec.allOnes 32 := by
    show BitVec.ofInt 32 4294967295 = BitVec.allOnes 32
    decide
  have e2 : BitVec.ofInt IntKind.u32.bits (X.toNat : Int) = X := ofInt_toNat X
  have e3 : (BitVec.allOnes 32 ^^^ X) = ~~~X := BitVec.allOnes_xor
  simp only [unPV]
  rw [e1, e2]
  exact congrArg (fun z => some (PV.t (.int .u32 z))) ((congrArg (fun b : BitVec 32 => IntKind.u32.wrap (b.toNat : Int)) e3).trans (wrap_bv _))
theorem u32_and : binPV P h .and t (.t (.int .u32 (X.toNat : Int))) (.t (.int .u32 (Y.toNat : Int))) = some (.t (.int .u32 ((X &&& Y).toNat : Int))) := by
  rw [bin_and]
  have e1 : BitVec.ofInt IntKind.u32.bits (X.toNat : Int) = X := ofInt_toNat X
  have e2 : BitVec.ofInt IntKind.u32.bits (Y.toNat : Int) = Y := ofInt_toNat Y
  rw [e1, e2]
  exact congrArg (fun z => some (PV.t (.int .u32 z))) (wrap_bv _)
theorem u32_or : binPV P h .or t (.t (.int .u32 (X.toNat : Int))) (.t (.int .u32 (Y.toNat : Int))) = some (.t (.int .u32 ((X ||| Y).toNat : Int))) := by
  rw [bin_or]
  have e1 : BitVec.ofInt IntKind.u32.bits (X.toNat : Int) = X := ofInt_toNat X
  have e2 : BitVec.ofInt IntKind.u32.bits (Y.toNat : Int) = Y := ofInt_toNat Y
  rw [e1, e2]
  exact congrArg (fun z => some (PV.t (.int .u32 z))) (wrap_bv _)
theorem u32_xor : binPV P h .xor t (.t (.int .u32 (X.toNat : Int))) (.t (.int .u32 (Y.toNat : Int))) = some (.t (.int .u32 ((X ^^^ Y).toNat : Int))) := by
  rw [bin_xor]
  have e1 : BitVec.ofInt IntKind.u32.bits (X.toNat : Int) = X := ofInt_toNat X
  have e2 : BitVec.ofInt IntKind.u32.bits (Y.toNat : Int) = Y := ofInt_toNat Y
  rw [e1, e2]
  exact congrArg (fun z => some (PV.t (.int .u32 z))) (wrap_bv _)
theorem u32_sub : IntKind.u32.wrap ((X.toNat : Int) - (Y.toNat : Int)) = ((X - Y).toNat : Int) := by
  have h1 := X.isLt
  have h2 := Y.isLt
  simp [IntKind.wrap, IntKind.bits, IntKind.signed, BitVec.toNat_sub]; omega
end
theorem sub32_d (x y c : Nat) (hx : x < B) (hy : y < B) (hc : c ≤ 1) : DCall Tryz.prog 267 [u32 x, u32 y, u32 c] (.tup [u32 (sb x y c), u32 (bw x y c)]) := by
  unfold sb bw
  rw [B_eq] at hx hy
  obtain ⟨X, rfl⟩ : ∃ X : BitVec 32, x = X.toNat := ⟨BitVec.ofNat 32 x, by simp; omega⟩
  obtain ⟨Y, rfl⟩ : ∃ X : BitVec 32, y = X.toNat := ⟨BitVec.ofNat 32 y, by simp; omega⟩
  obtain ⟨C, rfl⟩ : ∃ X : BitVec 32, c = X.toNat := ⟨BitVec.ofNat 32 c, by simp; omega⟩
  have hD : (X - Y - C).toNat = (X.toNat + B - Y.toNat + B - C.toNat) % B := by
    have h1 := X.isLt
    have h2 := Y.isLt
    have h3 := C.isLt
    simp only [BitVec.toNat_sub, B_eq]; omega
  rw [← borrow32 X Y (X - Y - C) C.toNat hc (by rw [hD, B_eq]), ← hD]
  refine dcall_mk orders Tryz.func267 rfl (by kernel_rfl) noMu (by kernel_rfl) rfl (fun hs => ?_)
  clear hD
  repeat' (first
    | (with_reducible first | refine sA ?_ ?_ | refine sB ?_ ?_ | refine sC ?_ ?_ | refine sD ?_ ?_ | refine sE ?_ ?_ | refine sF ?_ ?_) <;> intro h
    | simp only [go_sem, *, u32_not, u32_and, u32_or, u32_xor, u32_sub])
theorem get_headD {l : List Nat} {k : Nat} (h : k < l.length) : l[k]? = some ((l.drop k).headD 0) := by
  rw [List.getElem?_eq_getElem h, List.drop_eq_getElem_cons h]; rfl
theorem drop_headD {l : List Nat} {k : Nat} (h : ¬ k < l.length) : (l.drop k).headD 0 = 0 := by
  rw [List.drop_eq_nil_of_le (by omega)]; rfl
theorem drop_tail (l : List Nat) (k : Nat) : (l.drop k).tail = l.drop (k + 1) := by rw [List.tail_drop]
@[go_sem] theorem rep_dl (n : Nat) : List.map (Tr.int .u32) (List.replicate n 0) = dl (List.replicate n 0) := by simp [dl]
@[go_sem] theorem map_dl_set (l : List Nat) (k x : Nat) : (dl l).set k (.int .u32 (x : Int)) = dl (l.set k x) := by simp [dl, List.map_set]
@[go_sem] theorem splice_dl {k : Nat} {cur : List Nat} {x : Nat} (hk : k < cur.length) : splice ((dl cur).map .t) k [.t (.int .u32 (x : Int))] = (dl (cur.set k x)).map .t := by
  rw [splice_def', ← map_dl_set, List.map_set]
  exact set_splice _ k _ (by simpa [dl_length] using hk)
theorem take_set_succ {α : Type} (l : List α) (k : Nat) (a : α) (hk : k < l.length) : (l.set k a).take (k + 1) = l.take k ++ [a] := by
  rw [List.take_add_one, List.getElem?_set_self hk, List.take_set_of_le (Nat.le_refl _)]; rfl
theorem toTr_set {h : Hp} {id : Id} {o : Obj} {l : List Tr} {esz n : Nat} {e : TypeId} {lv : Bool} (hg : hget h id = some o) : toTr (hset h id ⟨l.map .t, esz, n, e, false, lv⟩) dep (.rf id n) = some (.sl true l) :=
  toTr_ints (esz := esz) (e := e) (lv := lv) 5 (by simp [hget_hset, hg])
theorem mod_B (n : Nat) : n % B < B := Nat.mod_lt _ B_pos
theorem plus_go (an bn : Bool) (a b : List Nat) (ha : okD a) (hb : okD b) (hl : b.length ≤ a.length) (hla : a.length ≤ 1000000) : DCall Tryz.prog 259 [.sl an (dl a), .sl bn (dl b)] (.sl true (dl (addL a b 0))) := by
  refine dcall_mk orders Tryz.func259 rfl (by kernel_rfl) (fun d => d == 19) (by kernel_rfl) rfl (fun hs => ?_)
  obtain ⟨N, hN⟩ : ∃ N, N = a.length + 1 := ⟨_, rfl⟩
  have f1 : decide ((a.length : Int) < (b.length : Int)) = false := decide_eq_false (by omega)
  have f2 : IntKind.i64.wrap ((a.length : Int) + 1) = (N : Int) := by rw [hN]; exact wrap_succ (by omega)
  have hN1 : N ≤ a.length + 1 := by omega
  have hN2 : a.length + 1 ≤ N := by omega
  clear hN
  repeat' (first
    | (with_reducible first | refine sA ?_ ?_ | refine sB ?_ ?_ | refine sC ?_ ?_ | refine sD ?_ ?_ | refine sE ?_ ?_ | refine sF ?_ ?_) <;> intro h
    | simp only [go_sem, *])
  refine hpK_if ⟨by omega, by omega⟩ ?_
  repeat' (first
    | (with_reducible first | refine sA ?_ ?_ | refine sB ?_ ?_ | refine sC ?_ ?_ | refine sD ?_ ?_ | refine sE ?_ ?_ | refine sF ?_ ?_) <;> intro h
    | simp only [go_sem, *])
  refine loop_range a (fun k s' => ∃ (cur : List Nat) (c : Nat), s'.sl 6 = .t (u32 c) ∧ hget s'.hp (19, 0) = some ⟨(dl cur).map .t, 1, N, tU32, false, true⟩ ∧ cur.length = N ∧ c ≤ 1 ∧ addL a b 0 = cur.take k ++ addL (a.drop k) (b.drop k) c) rfl rfl (by first | assumption | omega) (by kernel_rfl) (fun _ _ _ _ hj => hj) (fun _ _ _ hj => hj) ?_ (fun k x s' hx hd hk hJ hix hfr G hG => ?_) (fun s' hJ hfr => ?_)
  · exact ⟨List.replicate N 0, 0, rfl, rfl, by simp, Nat.zero_le _, by simp⟩
  · have c0 := hfr 0 (by kernel_rfl)
    have c1 := hfr 1 (by kernel_rfl)
    have c5 := hfr 5 (by kernel_rfl)
    have c21 := hfr 21 (by kernel_rfl)
    clear hfr
    simp only [go_sem] at c0 c1 c5 c21
    change _ = PV.rf (19, 0) N at c5
    obtain ⟨cur, c, h6, h19, hcl, hc, hJ⟩ := hJ
    have hx' := List.mem_of_getElem? hx
    have hkc : k < cur.length := by omega
    have hkN : k < N := by omega
    have hkN1 : k + 1 ≤ N := hkN
    rw [hd, addL, drop_tail] at hJ
    by_cases hkb : k < b.length
    · have g1 : decide ((k : Int) < (b.length : Int)) = true := decide_eq_true (by omega)
      have g2 := get_headD hkb
      repeat' (first
        | (with_reducible first | refine sA ?_ ?_ | refine sB ?_ ?_ | refine sC ?_ ?_ | refine sD ?_ ?_ | refine sE ?_ ?_ | refine sF ?_ ?_) <;> intro h
        | refine clK_mk (add32_d x ((b.drop k).headD 0) c (ha x hx') (okD_head (okD_drop hb k)) hc) rfl ?_
        | simp only [go_sem, *])
      refine hG _ ⟨cur.set k ((x + (b.drop k).headD 0 + c) % B), (x + (b.drop k).headD 0 + c) / B, rfl, ?_, by simp [hcl], ?_, ?_⟩
      · simp only [go_sem, h19]
      · have h1 := ha x hx'
        have h2 := okD_head (okD_drop hb k)
        have := (Nat.div_lt_iff_lt_mul B_pos).2 (show x + (b.drop k).headD 0 + c < 2 * B by omega)
        omega
      · rw [take_set_succ _ _ _ hkc, hJ]; simp
    · have g1 : decide ((k : Int) < (b.length : Int)) = false := decide_eq_false (by omega)
      have g2 := drop_headD hkb
      rw [g2] at hJ
      repeat' (first
        | (with_reducible first | refine sA ?_ ?_ | refine sB ?_ ?_ | refine sC ?_ ?_ | refine sD ?_ ?_ | refine sE ?_ ?_ | refine sF ?_ ?_) <;> intro h
        | refine clK_mk (add32_d x 0 c (ha x hx') B_pos hc) rfl ?_
        | simp only [go_sem, *])
      refine hG _ ⟨cur.set k ((x + 0 + c) % B), (x + 0 + c) / B, rfl, ?_, by simp [hcl], ?_, ?_⟩
      · simp only [go_sem, h19]
      · have h1 := ha x hx'
        have := (Nat.div_lt_iff_lt_mul B_pos).2 (show x + 0 + c < 2 * B by omega)
        omega
      · rw [take_set_succ _ _ _ hkc, hJ]; simp
  · obtain ⟨cur, c, h6, h19, hcl, hc, hJ⟩ := hJ
    have c0 := hfr 0 (by kernel_rfl)
    have c5 := hfr 5 (by kernel_rfl)
    clear hfr
    simp only [go_sem] at c0 c5
    change _ = PV.rf (19, 0) N at c5
    have hkN : a.length < N := by omega
    have hkc : a.length < cur.length := by omega
    rw [List.drop_length, addL] at hJ
    have e : cur.set a.length c = cur.take a.length ++ [c] := by
      have := take_set_succ cur a.length c hkc
      rw [← this, List.take_of_length_le (by simp; omega)]
    rw [hJ, ← e]
    clear hJ
    repeat' (first
      | (with_reducible first | refine sA ?_ ?_ | refine sB ?_ ?_ | refine sC ?_ ?_ | refine sD ?_ ?_ | refine sE ?_ ?_ | refine sF ?_ ?_) <;> intro h
      | simp only [go_sem, *])
    exact toTr_set h19
theorem plus_swap (an bn : Bool) (a b : List Nat) (ha : okD a) (hb : okD b) (hl : a.length < b.length) (hla : b.length ≤ 1000000) : DCall Tryz.prog 259 [.sl an (dl a), .sl bn (dl b)] (.sl true (dl (addL b a 0))) := by
  refine dcall_mk orders Tryz.func259 rfl (by kernel_rfl) (fun d => d == 19) (by kernel_rfl) rfl (fun hs => ?_)
  obtain ⟨N, hN⟩ : ∃ N, N = b.length + 1 := ⟨_, rfl⟩
  have f1 : decide ((a.length : Int) < (b.length : Int)) = true := decide_eq_true (by omega)
  have f2 : IntKind.i64.wrap ((b.length : Int) + 1) = (N : Int) := by rw [hN]; exact wrap_succ (by omega)
  have hN1 : N ≤ b.length + 1 := by omega
  have hN2 : b.length + 1 ≤ N := by omega
  clear hN
  repeat' (first
    | (with_reducible first | refine sA ?_ ?_ | refine sB ?_ ?_ | refine sC ?_ ?_ | refine sD ?_ ?_ | refine sE ?_ ?_ | refine sF ?_ ?_) <;> intro h
    | simp only [go_sem, *])
  refine hpK_if ⟨by omega, by omega⟩ ?_
  repeat' (first
    | (with_reducible first | refine sA ?_ ?_ | refine sB ?_ ?_ | refine sC ?_ ?_ | refine sD ?_ ?_ | refine sE ?_ ?_ | refine sF ?_ ?_) <;> intro h
    | simp only [go_sem, *])
  refine loop_range b (fun k s' => ∃ (cur : List Nat) (c : Nat), s'.sl 6 = .t (u32 c) ∧ hget s'.hp (19, 0) = some ⟨(dl cur).map .t, 1, N, tU32, false, true⟩ ∧ cur.length = N ∧ c ≤ 1 ∧ addL b a 0 = cur.take k ++ addL (b.drop k) (a.drop k) c) rfl rfl (by first | assumption | omega) (by kernel_rfl) (fun _ _ _ _ hj => hj) (fun _ _ _ hj => hj) ?_ (fun k x s' hx hd hk hJ hix hfr G hG => ?_) (fun s' hJ hfr => ?_)
  · exact ⟨List.replicate N 0, 0, rfl, rfl, by simp, Nat.zero_le _, by simp⟩
  · have c0 := hfr 0 (by kernel_rfl)
    have c1 := hfr 1 (by kernel_rfl)
    have c5 := hfr 5 (by kernel_rfl)
    have c21 := hfr 21 (by kernel_rfl)
    clear hfr
    simp only [go_sem] at c0 c1 c5 c21
    change _ = PV.rf (19, 0) N at c5
    obtain ⟨cur, c, h6, h19, hcl, hc, hJ⟩ := hJ
    have hx' := List.mem_of_getElem? hx
    have hkc : k < cur.length := by omega
    have hkN : k < N := by omega
    have hkN1 : k + 1 ≤ N := hkN
    rw [hd, addL, drop_tail] at hJ
    by_cases hkb : k < a.length
    · have g1 : decide ((k : Int) < (a.length : Int)) = true := decide_eq_true (by omega)
      have g2 := get_headD hkb
      repeat' (first
        | (with_reducible first | refine sA ?_ ?_ | refine sB ?_ ?_ | refine sC ?_ ?_ | refine sD ?_ ?_ | refine sE ?_ ?_ | refine sF ?_ ?_) <;> intro h
        | refine clK_mk (add32_d x ((a.drop k).headD 0) c (hb x hx') (okD_head (okD_drop ha k)) hc) rfl ?_
        | simp only [go_sem, *])
      refine hG _ ⟨cur.set k ((x + (a.drop k).headD 0 + c) % B), (x + (a.drop k).headD 0 + c) / B, rfl, ?_, by simp [hcl], ?_, ?_⟩
      · simp only [go_sem, h19]
      · have h1 := hb x hx'
        have h2 := okD_head (okD_drop ha k)
        have := (Nat.div_lt_iff_lt_mul B_pos).2 (show x + (a.drop k).headD 0 + c < 2 * B by omega)
        omega
      · rw [take_set_succ _ _ _ hkc, hJ]; simp
    · have g1 : decide ((k : Int) < (a.length : Int)) = false := decide_eq_false (by omega)
      have g2 := drop_headD hkb
      rw [g2] at hJ
      repeat' (first
        | (with_reducible first | refine sA ?_ ?_ | refine sB ?_ ?_ | refine sC ?_ ?_ | refine sD ?_ ?_ | refine sE ?_ ?_ | refine sF ?_ ?_) <;> intro h
        | refine clK_mk (add32_d x 0 c (hb x hx') B_pos hc) rfl ?_
        | simp only [go_sem, *])
      refine hG _ ⟨cur.set k ((x + 0 + c) % B), (x + 0 + c) / B, rfl, ?_, by simp [hcl], ?_, ?_⟩
      · simp only [go_sem, h19]
      · have h1 := hb x hx'
        have := (Nat.div_lt_iff_lt_mul B_pos).2 (show x + 0 + c < 2 * B by omega)
        omega
      · rw [take_set_succ _ _ _ hkc, hJ]; simp
  · obtain ⟨cur, c, h6, h19, hcl, hc, hJ⟩ := hJ
    have c0 := hfr 0 (by kernel_rfl)
    have c5 := hfr 5 (by kernel_rfl)
    clear hfr
    simp only [go_sem] at c0 c5
    change _ = PV.rf (19, 0) N at c5
    have hkN : b.length < N := by omega
    have hkc : b.length < cur.length := by omega
    rw [List.drop_length, addL] at hJ
    have e : cur.set b.length c = cur.take b.length ++ [c] := by
      have := take_set_succ cur b.length c hkc
      rw [← this, List.take_of_length_le (by simp; omega)]
    rw [hJ, ← e]
    clear hJ
    repeat' (first
      | (with_reducible first | refine sA ?_ ?_ | refine sB ?_ ?_ | refine sC ?_ ?_ | refine sD ?_ ?_ | refine sE ?_ ?_ | refine sF ?_ ?_) <;> intro h
      | simp only [go_sem, *])
    exact toTr_set h19
theorem plus_d (an bn : Bool) (a b : List Nat) (ha : okD a) (hb : okD b) (hla : a.length ≤ 1000000) (hlb : b.length ≤ 1000000) : ∃ r, okD r ∧ val r = val a + val b ∧ DCall Tryz.prog 259 [.sl an (dl a), .sl bn (dl b)] (.sl true (dl r)) := by
  by_cases h : a.length < b.length
  · obtain ⟨h1, h2, _⟩ := addL_spec hb ha (Nat.zero_le 1) (Nat.le_of_lt h)
    exact ⟨_, h2, by omega, plus_swap an bn a b ha hb h hlb⟩
  · obtain ⟨h1, h2, _⟩ := addL_spec ha hb (Nat.zero_le 1) (by omega)
    exact ⟨_, h2, by omega, plus_go an bn a b ha hb (by omega) hla⟩
end YtihgdplbehempaaGreat
end Go.Vm
end
section
set_option linter.unusedSimpArgs false
set_option maxRecDepth 10000
namespace Go.Vm
open Go Go.Proofs Go.Whole
namespace YtihgdplbehempaaGreat
open Go.Proofs.Tryz
theorem minus_raw (an bn : Bool) (a b : List Nat) (ha : okD a) (hb : okD b) (hla : a.length ≤ 1000000) : DCall Tryz.prog 253 [.sl an (dl a), .sl bn (dl b)] (.sl true (dl (subL a b 0))) := by
  refine dcall_mk orders Tryz.func253 rfl (by kernel_rfl) (fun d => d == 11) (by kernel_rfl) rfl (fun hs => ?_)
  repeat' (first
    | (with_reducible first | refine sA ?_ ?_ | refine sB ?_ ?_ | refine sC ?_ ?_ | refine sD ?_ ?_ | refine sE ?_ ?_ | refine sF ?_ ?_) <;> intro h
    | simp only [go_sem, *])
  refine hpK_if ⟨by omega, by omega⟩ ?_
  repeat' (first
    | (with_reducible first | refine sA ?_ ?_ | refine sB ?_ ?_ | refine sC ?_ ?_ | refine sD ?_ ?_ | refine sE ?_ ?_ | refine sF ?_ ?_) <;> intro h
    | simp only [go_sem, *])
  refine loop_range a (fun k s' => ∃ (cur : List Nat) (c : Nat), s'.sl 6 = .t (u32 c) ∧ hget s'.hp (11, 0) = some ⟨(dl cur).map .t, 1, a.length, tU32, false, true⟩ ∧ cur.length = a.length ∧ c ≤ 1 ∧ subL a b 0 = cur.take k ++ subL (a.drop k) (b.drop k) c) rfl rfl (by first | assumption | omega) (by kernel_rfl) (fun _ _ _ _ hj => hj) (fun _ _ _ hj => hj) ?_ (fun k x s' hx hd hk hJ hix hfr G hG => ?_) (fun s' hJ hfr => ?_)
  · exact ⟨List.replicate a.length 0, 0, rfl, rfl, by simp, Nat.zero_le _, by simp⟩
  · have c0 := hfr 0 (by kernel_rfl)
    have c1 := hfr 1 (by kernel_rfl)
    have c5 := hfr 5 (by kernel_rfl)
    have c13 := hfr 13 (by kernel_rfl)
    clear hfr
    simp only [go_sem] at c0 c1 c5 c13
    change _ = PV.rf (11, 0) a.length at c5
    obtain ⟨cur, c, h6, h19, hcl, hc, hJ⟩ := hJ
    have hx' := List.mem_of_getElem? hx
    have hkc : k < cur.length := by omega
    have hkN1 : k + 1 ≤ a.length := hk
    rw [hd, subL, drop_tail] at hJ
    by_cases hkb : k < b.length
    · have g1 : decide ((k : Int) < (b.length : Int)) = true := decide_eq_true (by omega)
      have g2 := get_headD hkb
      repeat' (first
        | (with_reducible first | refine sA ?_ ?_ | refine sB ?_ ?_ | refine sC ?_ ?_ | refine sD ?_ ?_ | refine sE ?_ ?_ | refine sF ?_ ?_) <;> intro h
        | refine clK_mk (sub32_d x ((b.drop k).headD 0) c (ha x hx') (okD_head (okD_drop hb k)) hc) rfl ?_
        | simp only [go_sem, *])
      refine hG _ ⟨cur.set k (sb x ((b.drop k).headD 0) c), bw x ((b.drop k).headD 0) c, rfl, ?_, by simp [hcl], ?_, ?_⟩
      · simp only [go_sem, h19]
      · unfold bw; split <;> omega
      · rw [take_set_succ _ _ _ hkc, hJ]; simp
    · have g1 : decide ((k : Int) < (b.length : Int)) = false := decide_eq_false (by omega)
      have g2 := drop_headD hkb
      rw [g2] at hJ
      repeat' (first
        | (with_reducible first | refine sA ?_ ?_ | refine sB ?_ ?_ | refine sC ?_ ?_ | refine sD ?_ ?_ | refine sE ?_ ?_ | refine sF ?_ ?_) <;> intro h
        | refine clK_mk (sub32_d x 0 c (ha x hx') B_pos hc) rfl ?_
        | simp only [go_sem, *])
      refine hG _ ⟨cur.set k (sb x 0 c), bw x 0 c, rfl, ?_, by simp [hcl], ?_, ?_⟩
      · simp only [go_sem, h19]
      · unfold bw; split <;> omega
      · rw [take_set_succ _ _ _ hkc, hJ]; simp
  · obtain ⟨cur, c, h6, h19, hcl, hc, hJ⟩ := hJ
    have c5 := hfr 5 (by kernel_rfl)
    clear hfr
    simp only [go_sem] at c5
    change _ = PV.rf (11, 0) a.length at c5
    rw [List.drop_length, subL, List.append_nil, List.take_of_length_le (by omega)] at hJ
    rw [hJ]
    clear hJ
    repeat' (first
      | (with_reducible first | refine sA ?_ ?_ | refine sB ?_ ?_ | refine sC ?_ ?_ | refine sD ?_ ?_ | refine sE ?_ ?_ | refine sF ?_ ?_) <;> intro h
      | simp only [go_sem, *])
    exact toTr_ints 5 h19
theorem minus_d (an bn : Bool) (a b : List Nat) (ha : okD a) (hb : okD b) (hl : b.length ≤ a.length) (hv : val b ≤ val a) (hla : a.length ≤ 1000000) : ∃ r, okD r ∧ val r = val a - val b ∧ DCall Tryz.prog 253 [.sl an (dl a), .sl bn (dl b)] (.sl true (dl r)) := by
  obtain ⟨h1, h2, _⟩ := subL_val ha hb hl hv
  exact ⟨_, h2, h1, minus_raw an bn a b ha hb hla⟩
theorem compare_d (an bn : Bool) (a b : List Nat) (ha : okD a) (hb : okD b) (hla : a.length ≤ 1000000) (hlb : b.length ≤ 1000000) : DCall Tryz.prog 252 [.sl an (dl a), .sl bn (dl b)] (i64 (cmpD a b)) := by
  refine dcall_mk orders Tryz.func252 rfl (by kernel_rfl) noMu (by kernel_rfl) rfl (fun hs => ?_)
  by_cases hl : a.length = b.length
  · have f1 : ((a.length : Int) != (b.length : Int)) = false := by simp; omega
    have hl1 : a.length ≤ b.length := by omega
    have hl2 : b.length ≤ a.length := by omega
    have f2 : IntKind.i64.wrap ((a.length : Int) - 1) = (a.length : Int) - 1 := wrap_i64 (by omega) (by omega)
    have hcmp : cmpD a b = if val a < val b then -1 else if val b < val a then 1 else 0 := by unfold cmpD; rw [if_neg (by omega)]
    rw [hcmp]
    clear hcmp hl
    repeat' (first
      | (with_reducible first | refine sA ?_ ?_ | refine sB ?_ ?_ | refine sC ?_ ?_ | refine sD ?_ ?_ | refine sE ?_ ?_ | refine sF ?_ ?_) <;> intro h
      | simp only [go_sem, *])
    refine loop_mk (fun m s' => ∃ i : Nat, m = i ∧ i ≤ a.length ∧ s'.sl 5 = .t (i64 ((i : Int) - 1)) ∧ a.drop i = b.drop i) a.length ⟨a.length, rfl, Nat.le_refl _, rfl, by rw [List.drop_length, List.drop_eq_nil_of_le hl2]⟩ ?_
    rintro i s' ⟨_, rfl, hi, h5, hd⟩ hfr G hG
    have c0 := hfr 0 (by kernel_rfl)
    have c1 := hfr 1 (by kernel_rfl)
    clear hfr
    simp only [go_sem] at c0 c1
    cases i with
    | zero =>
      have g1 : decide ((((0 : Nat) : Int) - 1) ≥ 0) = false := rfl
      have he : a = b := by simpa using hd
      subst he
      have g2 : (if val a < val a then (-1 : Int) else if val a < val a then 1 else 0) = 0 := by simp
      rw [g2]
      repeat' (first
        | (with_reducible first | refine sA ?_ ?_ | refine sB ?_ ?_ | refine sC ?_ ?_ | refine sD ?_ ?_ | refine sE ?_ ?_ | refine sF ?_ ?_) <;> intro h
        | simp only [go_sem, *])
    | succ j =>
      have hj : j < a.length := by omega
      have hjb : j < b.length := by omega
      have e0 : (((j + 1 : Nat) : Int) - 1) = (j : Int) := by omega
      rw [e0] at h5
      have g1 : decide (((j : Nat) : Int) ≥ 0) = true := by simp
      have g2 : a[j]? = some a[j] := List.getElem?_eq_getElem hj
      have g3 : b[j]? = some b[j] := List.getElem?_eq_getElem hjb
      have g4 : IntKind.i64.wrap ((j : Int) - 1) = (j : Int) - 1 := wrap_i64 (by omega) (by omega)
      by_cases hx : a[j] = b[j]
      · rw [hx] at g2
        have g5 : (((b[j] : Nat) : Int) != ((b[j] : Nat) : Int)) = false := by simp
        have hda : a.drop j = b.drop j := by rw [List.drop_eq_getElem_cons hj, List.drop_eq_getElem_cons hjb, hd, hx]
        clear hx hd
        repeat' (first
          | (with_reducible first | refine sA ?_ ?_ | refine sB ?_ ?_ | refine sC ?_ ?_ | refine sD ?_ ?_ | refine sE ?_ ?_ | refine sF ?_ ?_) <;> intro h
          | simp only [go_sem, *])
        refine hG _ _ (Nat.lt_succ_self j) ⟨j, rfl, by omega, rfl, hda⟩
      · have g5 : (((a[j] : Nat) : Int) != ((b[j] : Nat) : Int)) = true := by simpa using fun h => hx (by omega)
        by_cases hlt : a[j] < b[j]
        · have g6 : decide (((a[j] : Nat) : Int) < ((b[j] : Nat) : Int)) = true := by simpa using hlt
          have hv := val_lt_of_drop ha hb (by omega) hj hd (by simpa [hj, hjb] using hlt)
          rw [if_pos hv]
          repeat' (first
            | (with_reducible first | refine sA ?_ ?_ | refine sB ?_ ?_ | refine sC ?_ ?_ | refine sD ?_ ?_ | refine sE ?_ ?_ | refine sF ?_ ?_) <;> intro h
            | simp only [go_sem, *])
        · have g6 : decide (((a[j] : Nat) : Int) < ((b[j] : Nat) : Int)) = false := by simpa using hlt
          have hv := val_lt_of_drop hb ha (by omega) hjb hd.symm (by simpa [hj, hjb] using (show b[j] < a[j] by omega))
          rw [if_neg (by omega), if_pos hv]
          repeat' (first
            | (with_reducible first | refine sA ?_ ?_ | refine sB ?_ ?_ | refine sC ?_ ?_ | refine sD ?_ ?_ | refine sE ?_ ?_ | refine sF ?_ ?_) <;> intro h
            | simp only [go_sem, *])
  · have f1 : ((a.length : Int) != (b.length : Int)) = true := by simpa using fun h => hl (by omega)
    have f2 : IntKind.i64.wrap ((a.length : Int) - (b.length : Int)) = (a.length : Int) - (b.length : Int) := wrap_i64 (by omega) (by omega)
    have hcmp : cmpD a b = (a.length : Int) - b.length := by unfold cmpD; rw [if_pos hl]
    rw [hcmp]
    repeat' (first
      | (with_reducible first | refine sA ?_ ?_ | refine sB ?_ ?_ | refine sC ?_ ?_ | refine sD ?_ ?_ | refine sE ?_ ?_ | refine sF ?_ ?_) <;> intro h
      | simp only [go_sem, *])
def fits (z : Int) : Prop := (digs z.natAbs).length ≤ 400000
theorem fits.le {z : Int} (h : fits z) : (digs z.natAbs).length ≤ 1000000 := Nat.le_trans h (by decide)
theorem fits_mono {x y : Int} (h : x.natAbs ≤ y.natAbs) (hy : fits y) : fits x := Nat.le_trans (digs_length_mono h) hy
theorem add_d (xn yn : Bool) (x y : Int) (hx : fits x) (hy : fits y) : DCall Tryz.prog 222 [encI xn x, encI yn y] (encI true (x + y)) := by
  replace hx := hx.le
  replace hy := hy.le
  by_cases hs : decide (x < 0) = decide (y < 0)
  · obtain ⟨r, h1, h2, h3⟩ := plus_d xn yn (digs x.natAbs) (digs y.natAbs) (digs_ok _) (digs_ok _) hx hy
    have ht := trim_d true r (decide (x < 0)) h1
    rw [h2, val_digs, val_digs] at ht
    have e : (if decide (x < 0) = true then -((x.natAbs + y.natAbs : Nat) : Int) else ((x.natAbs + y.natAbs : Nat) : Int)) = x + y := by
      by_cases h : x < 0
      · have : y < 0 := by simpa [h] using hs
        simp [h]; omega
      · have : ¬ y < 0 := by simpa [h] using hs
        simp [h]; omega
    rw [e] at ht
    have hb : (decide (x < 0) == decide (y < 0)) = true := by simpa using hs
    clear hs
    refine dcall_mk orders Tryz.func222 rfl (by kernel_rfl) (fun d => d == 4) (by kernel_rfl) rfl (fun hs => ?_)
    repeat' (first
      | (with_reducible first | refine sA ?_ ?_ | refine sB ?_ ?_ | refine sC ?_ ?_ | refine sD ?_ ?_ | refine sE ?_ ?_ | refine sF ?_ ?_) <;> intro h
      | refine clK_mk (h3) rfl ?_
      | refine clK_mk (ht) rfl ?_
      | simp only [go_sem, *])
  · have hb : (decide (x < 0) == decide (y < 0)) = false := by simpa using hs
    have hc := compare_d xn yn (digs x.natAbs) (digs y.natAbs) (digs_ok _) (digs_ok _) hx hy
    by_cases hle : y.natAbs ≤ x.natAbs
    · obtain ⟨r, h1, h2, h3⟩ := minus_d xn yn (digs x.natAbs) (digs y.natAbs) (digs_ok _) (digs_ok _) (digs_length_mono hle) (by rw [val_digs, val_digs]; exact hle) hx
      have ht := trim_d true r (decide (x < 0)) h1
      rw [h2, val_digs, val_digs] at ht
      have e : (if decide (x < 0) = true then -((x.natAbs - y.natAbs : Nat) : Int) else ((x.natAbs - y.natAbs : Nat) : Int)) = x + y := by
        by_cases h : x < 0
        · have : ¬ y < 0 := by simpa [h] using hs
          simp [h]; omega
        · have : y < 0 := by simpa [h] using hs
          simp [h]; omega
      rw [e] at ht
      have hg : decide (cmpD (digs x.natAbs) (digs y.natAbs) ≥ 0) = true := decide_eq_true ((cmpD_digs _ _).2 hle)
      refine dcall_mk orders Tryz.func222 rfl (by kernel_rfl) (fun d => d == 4) (by kernel_rfl) rfl (fun hs => ?_)
      repeat' (first
        | (with_reducible first | refine sA ?_ ?_ | refine sB ?_ ?_ | refine sC ?_ ?_ | refine sD ?_ ?_ | refine sE ?_ ?_ | refine sF ?_ ?_) <;> intro h
        | refine clK_mk (hc) rfl ?_
        | refine clK_mk (h3) rfl ?_
        | refine clK_mk (ht) rfl ?_
        | simp only [go_sem, *])
    · obtain ⟨r, h1, h2, h3⟩ := minus_d yn xn (digs y.natAbs) (digs x.natAbs) (digs_ok _) (digs_ok _) (digs_length_mono (by omega)) (by rw [val_digs, val_digs]; omega) hy
      have ht := trim_d true r (decide (y < 0)) h1
      rw [h2, val_digs, val_digs] at ht
      have e : (if decide (y < 0) = true then -((y.natAbs - x.natAbs : Nat) : Int) else ((y.natAbs - x.natAbs : Nat) : Int)) = x + y := by
        by_cases h : y < 0
        · have : ¬ x < 0 := fun h2 => hs (by simp [h, h2])
          simp [h]; omega
        · have : x < 0 := Decidable.byContradiction fun h2 => hs (by simp [h, h2])
          simp [h]; omega
      rw [e] at ht
      have hg : decide (cmpD (digs x.natAbs) (digs y.natAbs) ≥ 0) = false := decide_eq_false (fun h => hle ((cmpD_digs _ _).1 h))
      refine dcall_mk orders Tryz.func222 rfl (by kernel_rfl) (fun d => d == 4) (by kernel_rfl) rfl (fun hs => ?_)
      repeat' (first
        | (with_reducible first | refine sA ?_ ?_ | refine sB ?_ ?_ | refine sC ?_ ?_ | refine sD ?_ ?_ | refine sE ?_ ?_ | refine sF ?_ ?_) <;> intro h
        | refine clK_mk (hc) rfl ?_
        | refine clK_mk (h3) rfl ?_
        | refine clK_mk (ht) rfl ?_
        | simp only [go_sem, *])
end YtihgdplbehempaaGreat
end Go.Vm
end
section
set_option linter.unusedSimpArgs false
set_option maxRecDepth 10000
namespace Go.Vm
open Go Go.Proofs Go.Whole
namespace YtihgdplbehempaaGreat
open Go.Proofs.Tryz
theorem macL_ne (a : Nat) (y o : List Nat) (c : Nat) : macL a y o c ≠ [] := by cases y <;> simp [macL]
theorem mac_room {a b c x : Nat} (ha : a < B) (hb : b < B) (hc : c < B) (hx : x < B) : c + (a * b + x) < 18446744073709551616 ∧ (c + a * b + x) / B < B ∧ a * b < 18446744073709551616 ∧ a * b + x < 18446744073709551616 := by
  have hab : a * b ≤ (B - 1) * (B - 1) := Nat.mul_le_mul (by omega) (by omega)
  have e1 : (B - 1) * (B - 1) = 18446744065119617025 := by decide
  refine ⟨?_, ?_, ?_, ?_⟩
  · rw [B_eq] at hc hx; omega
  · rw [Nat.div_lt_iff_lt_mul B_pos]
    have : B * B = 18446744073709551616 := by decide
    rw [B_eq] at hc hx; omega
  · omega
  · rw [B_eq] at hx; omega
theorem okD_set {l : List Nat} (h : okD l) {k v : Nat} (hv : v < B) : okD (l.set k v) := fun d hd => by
  rcases List.mem_or_eq_of_mem_set hd with h1 | h1
  · exact h d h1
  · rw [h1]; exact hv
theorem drop_set_gt {l : List Nat} {k v : Nat} : (l.set k v).drop (k + 1) = l.drop (k + 1) := by
  rw [List.drop_set_of_lt (by omega)]
theorem mul_raw (xn yn : Bool) (X Y : List Nat) (sx sy : Bool) (z : Int) (hX : okD X) (hY : okD Y) (hx1 : X.length ≤ 1000000) (hy1 : Y.length ≤ 1000000)
    (hres : DCall Tryz.prog 223 [.sl true (dl (mulL X Y (List.replicate (X.length + Y.length) 0))), .bool (sx != sy)] (encI true z)) :
    DCall Tryz.prog 156 [.agg [.sl xn (dl X), .bool sx], .agg [.sl yn (dl Y), .bool sy]] (encI true z) := by
  refine dcall_mk orders Tryz.func156 rfl (by kernel_rfl) (fun d => d == 4 || d == 18) (by kernel_rfl) rfl (fun hs => ?_)
  clear hs
  obtain ⟨L, hL⟩ : ∃ L, L = X.length + Y.length := ⟨_, rfl⟩
  rw [← hL] at hres
  have f1 : IntKind.i64.wrap ((X.length : Int) + (Y.length : Int)) = (L : Int) := by rw [hL, ← Int.natCast_add]; exact wrap_i64 (by omega) (by omega)
  have hL1 : L ≤ X.length + Y.length := by omega
  have hL2 : X.length + Y.length ≤ L := by omega
  clear hL
  repeat' (first
    | (with_reducible first | refine sA ?_ ?_ | refine sB ?_ ?_ | refine sC ?_ ?_ | refine sD ?_ ?_ | refine sE ?_ ?_ | refine sF ?_ ?_) <;> intro h
    | simp only [go_sem, *])
  refine hpK_if ⟨by omega, by omega⟩ ?_
  repeat' (first
    | (with_reducible first | refine sA ?_ ?_ | refine sB ?_ ?_ | refine sC ?_ ?_ | refine sD ?_ ?_ | refine sE ?_ ?_ | refine sF ?_ ?_) <;> intro h
    | simp only [go_sem, *])
  refine loop_range X (fun k s' => ∃ cur : List Nat, hget s'.hp (18, 0) = some ⟨(dl cur).map .t, 1, L, tU32, false, true⟩ ∧ hget s'.hp (4, 0) = some ⟨[.t (.sl false []), .t (.bool false)], 2, 1, tWInt, true, true⟩ ∧ cur.length = L ∧ okD cur ∧ mulL X Y (List.replicate L 0) = cur.take k ++ mulL (X.drop k) Y (cur.drop k)) rfl rfl (by first | assumption | omega) (by kernel_rfl) (fun _ _ _ _ hj => hj) (fun _ _ _ hj => hj) ?_ (fun k x s' hx hd hk hJ hix hfr G hG => ?_) (fun s' hJ hfr => ?_)
  · exact ⟨List.replicate L 0, rfl, rfl, by simp, okD_zeros L, by simp⟩
  · have c3 := hfr 3 (by kernel_rfl)
    have c4 := hfr 4 (by kernel_rfl)
    have c5 := hfr 5 (by kernel_rfl)
    have c20 := hfr 20 (by kernel_rfl)
    clear hfr
    simp only [go_sem] at c3 c4 c5 c20
    change _ = PV.rf (18, 0) L at c5
    change _ = PV.ad (4, 0) 1 0 at c4
    obtain ⟨cur, h18, h4, hcl, hco, hJ⟩ := hJ
    rw [hd, mulL] at hJ
    have hxB := hX x (List.mem_of_getElem? hx)
    have e3 := c3
    have e4 := c4
    have e5 := c5
    obtain ⟨i, hik⟩ : ∃ i, i = k := ⟨_, rfl⟩
    subst hik
    obtain ⟨a, hax⟩ : ∃ a, a = x := ⟨_, rfl⟩
    subst hax
    have hki : i + Y.length < cur.length := by omega
    have hk1 : (macL a Y (cur.drop i) 0) ≠ [] := macL_ne _ _ _ _
    repeat' (first
      | (with_reducible first | refine sA ?_ ?_ | refine sB ?_ ?_ | refine sC ?_ ?_ | refine sD ?_ ?_ | refine sE ?_ ?_ | refine sF ?_ ?_) <;> intro h
      | simp only [go_sem, *])
    refine loop_range Y (fun k s' => ∃ (o : List Nat) (c : Nat), s'.sl 8 = .t (.int .u64 (c : Int)) ∧ hget s'.hp (18, 0) = some ⟨(dl o).map .t, 1, L, tU32, false, true⟩ ∧ hget s'.hp (4, 0) = some ⟨[.t (.sl false []), .t (.bool false)], 2, 1, tWInt, true, true⟩ ∧ o.length = L ∧ okD o ∧ c < B ∧ cur.take i ++ macL a Y (cur.drop i) 0 = o.take (i + k) ++ macL a (Y.drop k) (o.drop (i + k)) c) rfl rfl (by first | assumption | omega) (by kernel_rfl) (fun _ _ _ _ hj => hj) (fun _ _ _ hj => hj) ?_ (fun k x s' hx hd hk hJ hix hfr G hG => ?_) (fun s' hJ hfr => ?_)
    · exact ⟨cur, 0, rfl, h18, h4, hcl, hco, B_pos, rfl⟩
    · have c5 := hfr 5 (by kernel_rfl)
      have c6 := hfr 6 (by kernel_rfl)
      have c7 := hfr 7 (by kernel_rfl)
      have c28 := hfr 28 (by kernel_rfl)
      clear hfr
      simp only [go_sem] at c5 c6 c7 c28
      obtain ⟨o, c, h8, h18, h4, hol, hoo, hcB, hJ2⟩ := hJ
      rw [e5] at c5
      have hxB2 := hY x (List.mem_of_getElem? hx)
      have hio : i + k < o.length := by omega
      have hio1 : i + k < L := by omega
      have hio2 : i + k + 1 ≤ L := hio1
      have g1 : IntKind.i64.wrap ((i : Int) + (k : Int)) = ((i + k : Nat) : Int) := by rw [← Int.natCast_add]; exact wrap_i64 (by omega) (by omega)
      have g2 := get_headD hio
      have hoB := okD_head (okD_drop hoo (i + k))
      rw [hd, macL, drop_tail] at hJ2
      generalize (o.drop (i + k)).headD 0 = u at *
      obtain ⟨r1, r2, r3, r4⟩ := mac_room hxB hxB2 hcB hoB
      have w1 := wrap_u64_lt (n := a) (by rw [B_eq] at hxB; omega)
      have w2 := wrap_u64_lt (n := x) (by rw [B_eq] at hxB2; omega)
      have w3 := wrap_u64_lt (n := u) (by rw [B_eq] at hoB; omega)
      have w4 := u64_mul a x
      rw [Nat.mod_eq_of_lt r3] at w4
      have w5 := u64_add (a * x) u
      rw [Nat.mod_eq_of_lt r4] at w5
      have w6 := u64_add c (a * x + u)
      rw [Nat.mod_eq_of_lt r1, ← Nat.add_assoc] at w6
      have w7 := wrap_u32 (c + a * x + u)
      have w8 : (c + a * x + u) / 4294967296 = (c + a * x + u) / B := rfl
      repeat' (first
        | (with_reducible first | refine sA ?_ ?_ | refine sB ?_ ?_ | refine sC ?_ ?_ | refine sD ?_ ?_ | refine sE ?_ ?_ | refine sF ?_ ?_) <;> intro h
        | simp only [go_sem, *])
      refine hG _ ⟨o.set (i + k) ((c + a * x + u) % B), (c + a * x + u) / B, rfl, ?_, ?_, by simp [hol], okD_set hoo (Nat.mod_lt _ B_pos), r2, ?_⟩
      · simp only [go_sem, h18]
      · simp only [go_sem, h4]
      · rw [← Nat.add_assoc, take_set_succ _ _ _ hio, drop_set_gt, hJ2]; simp
    · obtain ⟨o, c, h8, h18, h4, hol, hoo, hcB, hJ2⟩ := hJ
      have c3 := hfr 3 (by kernel_rfl)
      have c5 := hfr 5 (by kernel_rfl)
      have c6 := hfr 6 (by kernel_rfl)
      clear hfr
      simp only [go_sem] at c3 c5 c6
      rw [e5] at c5
      rw [e3] at c3
      have hio : i + Y.length < o.length := by omega
      have hio1 : i + Y.length < L := by omega
      have hio2 : i + Y.length + 1 ≤ L := hio1
      have g1 : IntKind.i64.wrap ((i : Int) + (Y.length : Int)) = ((i + Y.length : Nat) : Int) := by rw [← Int.natCast_add]; exact wrap_i64 (by omega) (by omega)
      have w7 := wrap_u32_lt hcB
      have w8 := Nat.mod_eq_of_lt hcB
      rw [List.drop_length, macL, w8, List.tail_drop] at hJ2
      have hset : cur.take i ++ macL a Y (cur.drop i) 0 = o.set (i + Y.length) c := by
        rw [hJ2, ← List.take_append_drop (i + Y.length + 1) (o.set (i + Y.length) c), take_set_succ _ _ _ hio, drop_set_gt]; simp
      have hti : (cur.take i).length = i := by rw [List.length_take]; omega
      obtain ⟨m0, ms, hm⟩ := List.exists_cons_of_ne_nil hk1
      rw [hm] at hset hJ
      have ht : (o.set (i + Y.length) c).take (i + 1) = cur.take i ++ [m0] := by
        rw [← hset, show cur.take i ++ m0 :: ms = (cur.take i ++ [m0]) ++ ms by simp]
        exact List.take_left' (by simp [hti])
      have hdr : (o.set (i + Y.length) c).drop (i + 1) = ms := by
        rw [← hset, show cur.take i ++ m0 :: ms = (cur.take i ++ [m0]) ++ ms by simp]
        exact List.drop_left' (by simp [hti])
      clear hm hk1 hset
      repeat' (first
        | (with_reducible first | refine sA ?_ ?_ | refine sB ?_ ?_ | refine sC ?_ ?_ | refine sD ?_ ?_ | refine sE ?_ ?_ | refine sF ?_ ?_) <;> intro h
        | simp only [go_sem, *])
      refine hG _ ⟨o.set (i + Y.length) c, ?_, ?_, by simp [hol], okD_set hoo hcB, ?_⟩
      · simp only [go_sem, h18]
      · simp only [go_sem, h4]
      · rw [ht, hdr, hJ]; simp
  · obtain ⟨cur, h18, h4, hcl, hco, hJ⟩ := hJ
    have c2 := hfr 2 (by kernel_rfl)
    have c3 := hfr 3 (by kernel_rfl)
    have c4 := hfr 4 (by kernel_rfl)
    have c5 := hfr 5 (by kernel_rfl)
    clear hfr
    simp only [go_sem] at c2 c3 c4 c5
    change _ = PV.rf (18, 0) L at c5
    change _ = PV.ad (4, 0) 1 0 at c4
    rw [List.drop_length, mulL, List.take_append_drop] at hJ
    rw [hJ] at hres
    have hdep := toTr_ints 5 h18
    change toTr s'.hp dep _ = _ at hdep
    repeat' (first
      | (with_reducible first | refine sA ?_ ?_ | refine sB ?_ ?_ | refine sC ?_ ?_ | refine sD ?_ ?_ | refine sE ?_ ?_ | refine sF ?_ ?_) <;> intro h
      | simp only [go_sem, *])
    refine clK_fz hres (by simp only [go_sem, hdep]) rfl ?_
    have hfz := frz_row (m := L) h18 h4 rfl
    repeat' (first
      | (with_reducible first | refine sA ?_ ?_ | refine sB ?_ ?_ | refine sC ?_ ?_ | refine sD ?_ ?_ | refine sE ?_ ?_ | refine sF ?_ ?_) <;> intro h
      | simp only [go_sem, *])
theorem mul_d (xn yn : Bool) (x y : Int) (hx : fits x) (hy : fits y) : DCall Tryz.prog 156 [encI xn x, encI yn y] (encI true (x * y)) := by
  obtain ⟨h1, h2⟩ := mulL_spec (digs_ok x.natAbs) (digs_ok y.natAbs) (okD_zeros ((digs x.natAbs).length + (digs y.natAbs).length)) (by simp) (fun d hd => (List.mem_replicate.1 (List.mem_of_mem_drop hd)).2)
  have ht := trim_d true _ (decide (x < 0) != decide (y < 0)) h2
  rw [h1, val_zeros, val_digs, val_digs, Nat.add_zero] at ht
  have e : (if (decide (x < 0) != decide (y < 0)) = true then -((x.natAbs * y.natAbs : Nat) : Int) else ((x.natAbs * y.natAbs : Nat) : Int)) = x * y := by
    rw [Int.natCast_mul]
    by_cases h1 : x < 0
    · have e1 : ((x.natAbs : Nat) : Int) = -x := by omega
      by_cases h2 : y < 0
      · have e2 : ((y.natAbs : Nat) : Int) = -y := by omega
        simp [h1, h2, e1, e2, Int.neg_mul, Int.mul_neg]
      · have e2 : ((y.natAbs : Nat) : Int) = y := by omega
        simp [h1, h2, e1, e2, Int.neg_mul, Int.mul_neg]
    · have e1 : ((x.natAbs : Nat) : Int) = x := by omega
      by_cases h2 : y < 0
      · have e2 : ((y.natAbs : Nat) : Int) = -y := by omega
        simp [h1, h2, e1, e2, Int.neg_mul, Int.mul_neg]
      · have e2 : ((y.natAbs : Nat) : Int) = y := by omega
        simp [h1, h2, e1, e2, Int.neg_mul, Int.mul_neg]
  rw [e] at ht
  exact mul_raw xn yn _ _ _ _ _ (digs_ok _) (digs_ok _) hx.le hy.le ht
end YtihgdplbehempaaGreat
end Go.Vm
end
section
set_option linter.unusedSimpArgs false
set_option maxRecDepth 10000
namespace Go.Vm
open Go Go.Proofs Go.Whole
namespace YtihgdplbehempaaGreat
open Go.Proofs.Tryz
attribute [go_sem] Tryz.results214 Tryz.results215 Tryz.results250 Tryz.results251 Tryz.results144 Tryz.results249 Tryz.results213
section
variable {P : Program} {h : Hp} (t : TypeId)
theorem ofInt_nat (w n : Nat) : BitVec.ofInt w (n : Int) = BitVec.ofNat w n := by
  apply BitVec.eq_of_toNat_eq; simp
theorem or_u64 {a b : Nat} (ha : a < 18446744073709551616) (hb : b < 18446744073709551616) : binPV P h .or t (.t (.int .u64 (a : Int))) (.t (.int .u64 (b : Int))) = some (.t (.int .u64 ((a ||| b : Nat) : Int))) := by
  rw [bin_or]
  have e1 : BitVec.ofInt IntKind.u64.bits (a : Int) = BitVec.ofNat 64 a := ofInt_nat 64 a
  have e2 : BitVec.ofInt IntKind.u64.bits (b : Int) = BitVec.ofNat 64 b := ofInt_nat 64 b
  rw [e1, e2]
  have e3 : (BitVec.ofNat 64 a ||| BitVec.ofNat 64 b).toNat = a ||| b := by
    rw [BitVec.toNat_or, BitVec.toNat_ofNat, BitVec.toNat_ofNat, Nat.mod_eq_of_lt ha, Nat.mod_eq_of_lt hb]
  have e4 : IntKind.u64.wrap (((BitVec.ofNat 64 a ||| BitVec.ofNat 64 b).toNat : Nat) : Int) = ((a ||| b : Nat) : Int) := by
    rw [e3]; exact wrap_u64_lt (Nat.or_lt_two_pow (n := 64) ha hb)
  exact congrArg (fun z => some (PV.t (.int .u64 z))) e4
theorem or_u32 {a b : Nat} (ha : a < B) (hb : b < B) : binPV P h .or t (.t (.int .u32 (a : Int))) (.t (.int .u32 (b : Int))) = some (.t (.int .u32 ((a ||| b : Nat) : Int))) := by
  rw [bin_or]
  have e1 : BitVec.ofInt IntKind.u32.bits (a : Int) = BitVec.ofNat 32 a := ofInt_nat 32 a
  have e2 : BitVec.ofInt IntKind.u32.bits (b : Int) = BitVec.ofNat 32 b := ofInt_nat 32 b
  rw [e1, e2]
  have e3 : (BitVec.ofNat 32 a ||| BitVec.ofNat 32 b).toNat = a ||| b := by
    rw [BitVec.toNat_or, BitVec.toNat_ofNat, BitVec.toNat_ofNat, Nat.mod_eq_of_lt (by rw [B_eq] at ha; omega), Nat.mod_eq_of_lt (by rw [B_eq] at hb; omega)]
  have e4 : IntKind.u32.wrap (((BitVec.ofNat 32 a ||| BitVec.ofNat 32 b).toNat : Nat) : Int) = ((a ||| b : Nat) : Int) := by
    rw [e3]; exact wrap_u32_lt (by rw [B_two] at ha hb ⊢; exact Nat.or_lt_two_pow ha hb)
  exact congrArg (fun z => some (PV.t (.int .u32 z))) e4
theorem and1_u32 {a : Nat} (ha : a < B) : binPV P h .and t (.t (.int .u32 (a : Int))) (.t (.int .u32 1)) = some (.t (.int .u32 ((a % 2 : Nat) : Int))) := by
  rw [bin_and]
  have e1 : BitVec.ofInt IntKind.u32.bits (a : Int) = BitVec.ofNat 32 a := ofInt_nat 32 a
  have e2 : BitVec.ofInt IntKind.u32.bits 1 = BitVec.ofNat 32 1 := ofInt_nat 32 1
  rw [e1, e2]
  have e3 : (BitVec.ofNat 32 a &&& BitVec.ofNat 32 1).toNat = a % 2 := by
    rw [BitVec.toNat_and, BitVec.toNat_ofNat, BitVec.toNat_ofNat, Nat.mod_eq_of_lt (by rw [B_eq] at ha; omega)]
    exact Nat.and_one_is_mod a
  have e4 : IntKind.u32.wrap (((BitVec.ofNat 32 a &&& BitVec.ofNat 32 1).toNat : Nat) : Int) = ((a % 2 : Nat) : Int) := by
    rw [e3]; exact wrap_u32_lt (by rw [B_eq]; omega)
  exact congrArg (fun z => some (PV.t (.int .u32 z))) e4
end
theorem wword_d (nn : Bool) (z : Int) (h2 : z.natAbs < 18446744073709551616) : DCall Tryz.prog 215 [encI nn z] (.int .u64 (z.natAbs : Int)) := by
  refine dcall_mk orders Tryz.func215 rfl (by kernel_rfl) noMu (by kernel_rfl) rfl (fun hs => ?_)
  clear hs
  unfold encI intC
  have hD := digs_ok z.natAbs
  have hl : (digs z.natAbs).length ≤ 2 := digs_length.2 (by rw [show B ^ 2 = 18446744073709551616 by decide]; exact h2)
  have hv := val_digs z.natAbs
  generalize hn : z.natAbs = n at *
  generalize digs n = D at *
  repeat' (first
    | (with_reducible first | refine sA ?_ ?_ | refine sB ?_ ?_ | refine sC ?_ ?_ | refine sD ?_ ?_ | refine sE ?_ ?_ | refine sF ?_ ?_) <;> intro h
    | simp only [go_sem, *])
  refine loop_range D (fun k s' => s'.sl 3 = .t (.int .u64 ((val (D.take k) : Nat) : Int))) rfl rfl (by first | assumption | omega) (by kernel_rfl) (fun _ _ _ _ hj => hj) (fun _ _ _ hj => hj) ?_ (fun k x s' hx hd hk hJ hix hfr G hG => ?_) (fun s' hJ hfr => ?_)
  · rfl
  · have c7 := hfr 7 (by kernel_rfl)
    clear hfr
    simp only [go_sem] at c7
    have hx' := hD x (List.mem_of_getElem? hx)
    have w2 := wrap_u64_lt (n := x) (by rw [B_eq] at hx'; omega)
    have e : val (D.take (k + 1)) = val (D.take k) + B ^ k * x := by
      rw [List.take_add_one, hx, val_append, List.length_take, Nat.min_eq_left (by omega)]
      simp [val]
    have hlt : val (D.take k) < B ^ k := by
      have := val_lt (okD_take hD k)
      rwa [List.length_take, Nat.min_eq_left (by omega)] at this
    have hk2 : k = 0 ∨ k = 1 := by omega
    rcases hk2 with rfl | rfl
    · have g1 : IntKind.i64.wrap (32 * ((0 : Nat) : Int)) = 0 := by decide
      have g2 : IntKind.u64.wrap ((x : Int) * 2 ^ (min 0 64)) = (x : Int) := by
        simpa using w2
      have g3 : val (D.take 0) = 0 := rfl
      rw [g3] at hJ
      have g4 := or_u64 (P := Tryz.prog) (h := s'.hp) 38 (a := 0) (b := x) (by decide) (by rw [B_eq] at hx'; omega)
      repeat' (first
        | (with_reducible first | refine sA ?_ ?_ | refine sB ?_ ?_ | refine sC ?_ ?_ | refine sD ?_ ?_ | refine sE ?_ ?_ | refine sF ?_ ?_) <;> intro h
        | simp only [go_sem, *])
      refine hG _ ?_
      show _ = _
      simp only [go_sem, e, Nat.pow_zero, Nat.one_mul, Nat.zero_add, Nat.zero_or]
      simp [val]
    · have g1 : IntKind.i64.wrap (32 * ((1 : Nat) : Int)) = 32 := by decide
      have g2 : IntKind.u64.wrap ((x : Int) * 2 ^ (min (Int.toNat 32) 64)) = ((x * 4294967296 : Nat) : Int) := by
        have : (x : Int) * 2 ^ (min (Int.toNat 32) 64) = ((x * 4294967296 : Nat) : Int) := by
          rw [show min (Int.toNat 32) 64 = 32 from rfl]; omega
        rw [this]; exact wrap_u64_lt (by rw [B_eq] at hx'; omega)
      have g4 := or_u64 (P := Tryz.prog) (h := s'.hp) 38 (a := val (D.take 1)) (b := x * 4294967296) (by rw [B_eq] at hlt; omega) (by rw [B_eq] at hx'; omega)
      have g5 : val (D.take 1) ||| x * 4294967296 = val (D.take 1) + B ^ 1 * x := by
        rw [Nat.or_comm, show x * 4294967296 = 2 ^ 32 * x by omega, ← Nat.two_pow_add_eq_or_of_lt (by rw [B_two] at hlt; simpa using hlt), B_two]; omega
      rw [g5] at g4
      repeat' (first
        | (with_reducible first | refine sA ?_ ?_ | refine sB ?_ ?_ | refine sC ?_ ?_ | refine sD ?_ ?_ | refine sE ?_ ?_ | refine sF ?_ ?_) <;> intro h
        | simp only [go_sem, *])
  · rw [List.take_length, hv] at hJ
    repeat' (first
      | (with_reducible first | refine sA ?_ ?_ | refine sB ?_ ?_ | refine sC ?_ ?_ | refine sD ?_ ?_ | refine sE ?_ ?_ | refine sF ?_ ?_) <;> intro h
      | simp only [go_sem, *])
theorem bit_d (nn : Bool) (z : Int) (hz : fits z) (i : Nat) (hi : i < 32 * (digs z.natAbs).length) : DCall Tryz.prog 251 [encI nn z, i64 i] (u32 (z.natAbs / 2 ^ i % 2)) := by
  refine dcall_mk orders Tryz.func251 rfl (by kernel_rfl) noMu (by kernel_rfl) rfl (fun hs => ?_)
  clear hs
  have hD := digs_ok z.natAbs
  have hz' : (digs z.natAbs).length ≤ 1000000 := hz.le
  have hb := bit_val hD i
  rw [val_digs] at hb
  rw [← hb]
  have hlt : i / 32 < (digs z.natAbs).length := by omega
  have hdB : (digs z.natAbs).getD (i / 32) 0 < B := by rw [getD_val hD]; exact mod_B _
  have hg : (digs z.natAbs)[i / 32]? = some ((digs z.natAbs).getD (i / 32) 0) := by rw [List.getD_eq_getElem?_getD, List.getElem?_eq_getElem hlt]; rfl
  clear hb hz
  generalize (digs z.natAbs).getD (i / 32) 0 = u at *
  unfold encI intC
  generalize digs z.natAbs = D at *
  have g1 : IntKind.i64.wrap ((i : Int).tdiv 32) = ((i / 32 : Nat) : Int) := by
    rw [show (i : Int).tdiv 32 = ((i / 32 : Nat) : Int) by rw [Int.tdiv_eq_ediv_of_nonneg (by omega)]; omega]
    exact wrap_i64 (by omega) (by omega)
  have g2 : (i : Int).tmod 32 = ((i % 32 : Nat) : Int) := by rw [Int.tmod_eq_emod_of_nonneg (by omega)]; omega
  have g3 : (u : Int).fdiv (2 ^ (min (i % 32) 32)) = ((u / 2 ^ (i % 32) : Nat) : Int) := by
    rw [shr_nat, Nat.min_eq_left (by omega)]
  have g4 : (((i % 32 : Nat) : Int) < 0) ↔ False := by simp; omega
  have g5 := and1_u32 (P := Tryz.prog) (h := fun _ => []) 215 (a := u / 2 ^ (i % 32)) (Nat.lt_of_le_of_lt (Nat.div_le_self _ _) hdB)
  repeat' (first
    | (with_reducible first | refine sA ?_ ?_ | refine sB ?_ ?_ | refine sC ?_ ?_ | refine sD ?_ ?_ | refine sE ?_ ?_ | refine sF ?_ ?_) <;> intro h
    | simp only [go_sem, *])
theorem dbl_or {x c : Nat} (hc : c ≤ 1) : (x * 2 % B) ||| c = x * 2 % B + c := by
  have e : x * 2 % B = 2 ^ 1 * (x % 2147483648) := by rw [B_eq]; omega
  rw [e, ← Nat.two_pow_add_eq_or_of_lt (by omega)]
theorem shift_d (nn : Bool) (d : List Nat) (bit : Nat) (hd0 : okD d) (hbit : bit ≤ 1) (hl : d.length ≤ 1000000) : DCall Tryz.prog 250 [.sl nn (dl d), u32 bit] (.sl true (dl (digs (2 * val d + bit)))) := by
  obtain ⟨r1, r2, r3⟩ := shiftL_spec hd0 hbit
  have ht := trim_d true _ false r2
  rw [r1] at ht
  simp only [Bool.false_eq_true, if_false] at ht
  have hna : ((2 * val d + bit : Nat) : Int).natAbs = 2 * val d + bit := by omega
  generalize hz : 2 * val d + bit = z at *
  clear r1 r2 r3 hz
  refine dcall_mk orders Tryz.func250 rfl (by kernel_rfl) (fun d => d == 11) (by kernel_rfl) rfl (fun hs => ?_)
  clear hs
  obtain ⟨L, hL⟩ : ∃ L, L = d.length + 1 := ⟨_, rfl⟩
  have f1 : IntKind.i64.wrap ((d.length : Int) + 1) = (L : Int) := by rw [hL]; exact wrap_succ (by omega)
  have hL1 : L ≤ d.length + 1 := by omega
  have hL2 : d.length + 1 ≤ L := by omega
  clear hL
  repeat' (first
    | (with_reducible first | refine sA ?_ ?_ | refine sB ?_ ?_ | refine sC ?_ ?_ | refine sD ?_ ?_ | refine sE ?_ ?_ | refine sF ?_ ?_) <;> intro h
    | simp only [go_sem, *])
  refine hpK_if ⟨by omega, by omega⟩ ?_
  repeat' (first
    | (with_reducible first | refine sA ?_ ?_ | refine sB ?_ ?_ | refine sC ?_ ?_ | refine sD ?_ ?_ | refine sE ?_ ?_ | refine sF ?_ ?_) <;> intro h
    | simp only [go_sem, *])
  refine loop_range d (fun k s' => ∃ (cur : List Nat) (c : Nat), s'.sl 1 = .t (u32 c) ∧ hget s'.hp (11, 0) = some ⟨(dl cur).map .t, 1, L, tU32, false, true⟩ ∧ cur.length = L ∧ c ≤ 1 ∧ shiftL d bit = cur.take k ++ shiftL (d.drop k) c) rfl rfl (by first | assumption | omega) (by kernel_rfl) (fun _ _ _ _ hj => hj) (fun _ _ _ hj => hj) ?_ (fun k x s' hx hd hk hJ hix hfr G hG => ?_) (fun s' hJ hfr => ?_)
  · exact ⟨List.replicate L 0, bit, rfl, rfl, by simp, hbit, by simp⟩
  · have c5 := hfr 5 (by kernel_rfl)
    have c12 := hfr 12 (by kernel_rfl)
    clear hfr
    simp only [go_sem] at c5 c12
    change _ = PV.rf (11, 0) L at c5
    obtain ⟨cur, c, h1, h11, hcl, hc, hJ⟩ := hJ
    have hxB := hd0 x (List.mem_of_getElem? hx)
    have hkc : k < cur.length := by omega
    have hkN : k < L := by omega
    have hkN1 : k + 1 ≤ L := hkN
    rw [hd, shiftL] at hJ
    have g1 : IntKind.u32.wrap ((x : Int) * 2 ^ (min (Int.toNat 1) 32)) = ((x * 2 % B : Nat) : Int) := by
      rw [show (x : Int) * 2 ^ (min (Int.toNat 1) 32) = ((x * 2 : Nat) : Int) by rw [show min (Int.toNat 1) 32 = 1 from rfl]; omega, wrap_u32]
    have g2 := or_u32 (P := Tryz.prog) (h := s'.hp) 215 (a := x * 2 % B) (b := c) (mod_B _) (by rw [B_eq]; omega)
    rw [dbl_or hc] at g2
    have g3 : x / 2147483648 = x / 2 ^ 31 := rfl
    repeat' (first
      | (with_reducible first | refine sA ?_ ?_ | refine sB ?_ ?_ | refine sC ?_ ?_ | refine sD ?_ ?_ | refine sE ?_ ?_ | refine sF ?_ ?_) <;> intro h
      | simp only [go_sem, *])
    refine hG _ ⟨cur.set k (x * 2 % B + c), x / 2 ^ 31, rfl, ?_, by simp [hcl], by rw [B_eq] at hxB; omega, ?_⟩
    · simp only [go_sem, h11]
    · rw [take_set_succ _ _ _ hkc, hJ]; simp
  · obtain ⟨cur, c, h1, h11, hcl, hc, hJ⟩ := hJ
    have c0 := hfr 0 (by kernel_rfl)
    have c5 := hfr 5 (by kernel_rfl)
    clear hfr
    simp only [go_sem] at c0 c5
    change _ = PV.rf (11, 0) L at c5
    have hkN : d.length < L := by omega
    have hkc : d.length < cur.length := by omega
    rw [List.drop_length, shiftL] at hJ
    have e : cur.set d.length c = cur.take d.length ++ [c] := by
      have := take_set_succ cur d.length c hkc
      rw [← this, List.take_of_length_le (by simp; omega)]
    rw [hJ, ← e] at ht
    clear hJ e
    have hdep := toTr_set (l := dl (cur.set d.length c)) (esz := 1) (n := L) (e := tU32) (lv := true) h11
    repeat' (first
      | (with_reducible first | refine sA ?_ ?_ | refine sB ?_ ?_ | refine sC ?_ ?_ | refine sD ?_ ?_ | refine sE ?_ ?_ | refine sF ?_ ?_) <;> intro h
      | simp only [go_sem, *])
    refine clK_fz ht (by simp only [go_sem, hdep]) rfl ?_
    repeat' (first
      | (with_reducible first | refine sA ?_ ?_ | refine sB ?_ ?_ | refine sC ?_ ?_ | refine sD ?_ ?_ | refine sE ?_ ?_ | refine sF ?_ ?_) <;> intro h
      | simp only [go_sem, *])
theorem from_nat (n : Nat) (hn : n < 18446744073709551616) : DCall Tryz.prog 154 [.int .u64 n] (.agg [.sl true (dl (digs n)), .bool false]) := by
  have := from_d n hn
  unfold encI intC at this
  rw [show ((n : Int)).natAbs = n by omega, show decide ((n : Int) < 0) = false from decide_eq_false (by omega)] at this
  exact this
theorem tdiv_sign (x y : Int) : (if (decide (x < 0) != decide (y < 0)) = true then -((x.natAbs / y.natAbs : Nat) : Int) else ((x.natAbs / y.natAbs : Nat) : Int)) = x.tdiv y := by
  have key : ∀ a b : Nat, ((a : Int)).tdiv (b : Int) = ((a / b : Nat) : Int) := fun _ _ => rfl
  by_cases h1 : x < 0
  · obtain ⟨a, rfl⟩ : ∃ a : Nat, x = -(a : Int) := ⟨x.natAbs, by omega⟩
    by_cases h2 : y < 0
    · obtain ⟨b, rfl⟩ : ∃ b : Nat, y = -(b : Int) := ⟨y.natAbs, by omega⟩
      rw [decide_eq_true h1, decide_eq_true h2, Int.neg_tdiv, Int.tdiv_neg, key]; simp
    · obtain ⟨b, rfl⟩ : ∃ b : Nat, y = (b : Int) := ⟨y.natAbs, by omega⟩
      rw [decide_eq_true h1, decide_eq_false h2, Int.neg_tdiv, key]; simp
  · obtain ⟨a, rfl⟩ : ∃ a : Nat, x = (a : Int) := ⟨x.natAbs, by omega⟩
    by_cases h2 : y < 0
    · obtain ⟨b, rfl⟩ : ∃ b : Nat, y = -(b : Int) := ⟨y.natAbs, by omega⟩
      rw [decide_eq_false h1, decide_eq_true h2, Int.tdiv_neg, key]; simp
    · obtain ⟨b, rfl⟩ : ∃ b : Nat, y = (b : Int) := ⟨y.natAbs, by omega⟩
      rw [decide_eq_false h1, decide_eq_false h2, key]; simp
theorem tmod_sign (x y : Int) : (if decide (x < 0) = true then -((x.natAbs % y.natAbs : Nat) : Int) else ((x.natAbs % y.natAbs : Nat) : Int)) = x.tmod y := by
  have key : ∀ a b : Nat, ((a : Int)).tmod (b : Int) = ((a % b : Nat) : Int) := fun _ _ => rfl
  obtain ⟨b, hb⟩ : ∃ b : Nat, b = y.natAbs := ⟨_, rfl⟩
  have hy : x.tmod y = x.tmod (b : Int) := by
    rcases Int.natAbs_eq y with h | h
    · rw [hb, ← h]
    · rw [hb]; conv => lhs; rw [h, Int.tmod_neg]
  rw [hy, ← hb]
  by_cases h1 : x < 0
  · obtain ⟨a, rfl⟩ : ∃ a : Nat, x = -(a : Int) := ⟨x.natAbs, by omega⟩
    rw [decide_eq_true h1, Int.neg_tmod, key]; simp
  · obtain ⟨a, rfl⟩ : ∃ a : Nat, x = (a : Int) := ⟨x.natAbs, by omega⟩
    rw [decide_eq_false h1, key]; simp
theorem div_small (xn yn : Bool) (x y : Int) (hx2 : (digs x.natAbs).length ≤ 2) (hy2 : (digs y.natAbs).length ≤ 2) (hy0 : y ≠ 0) : DCall Tryz.prog 214 [encI xn x, encI yn y] (.tup [encI true (x.tdiv y), encI true (x.tmod y)]) := by
  refine dcall_mk orders Tryz.func214 rfl (by kernel_rfl) (fun d => d == 4 || d == 5 || d == 8 || d == 9 || d == 35 || d == 43 || d == 51 || d == 78 || d == 81 || d == 87 || d == 94) (by kernel_rfl) rfl (fun hs => ?_)
  clear hs
  have hX : x.natAbs < 18446744073709551616 := by have := lt_of_digs_length hx2; rwa [show B ^ 2 = 18446744073709551616 by decide] at this
  have hY : y.natAbs < 18446744073709551616 := by have := lt_of_digs_length hy2; rwa [show B ^ 2 = 18446744073709551616 by decide] at this
  have f1 : decide (((digs x.natAbs).length : Int) ≤ 2) = true := decide_eq_true (by omega)
  have f2 : decide (((digs y.natAbs).length : Int) ≤ 2) = true := decide_eq_true (by omega)
  have f3 : ((y.natAbs : Nat) : Int) = 0 ↔ False := by simp; omega
  have f4 : IntKind.u64.wrap ((x.natAbs : Int).tdiv (y.natAbs : Int)) = ((x.natAbs / y.natAbs : Nat) : Int) := by
    rw [show (x.natAbs : Int).tdiv (y.natAbs : Int) = ((x.natAbs / y.natAbs : Nat) : Int) from rfl]
    exact wrap_u64_lt (Nat.lt_of_le_of_lt (Nat.div_le_self _ _) hX)
  have f5 : (x.natAbs : Int).tmod (y.natAbs : Int) = ((x.natAbs % y.natAbs : Nat) : Int) := rfl
  have hq := from_nat (x.natAbs / y.natAbs) (Nat.lt_of_le_of_lt (Nat.div_le_self _ _) hX)
  have hr := from_nat (x.natAbs % y.natAbs) (Nat.lt_of_le_of_lt (Nat.mod_le _ _) hX)
  have t1 := trim_d true (digs (x.natAbs / y.natAbs)) (decide (x < 0) != decide (y < 0)) (digs_ok _)
  rw [val_digs, tdiv_sign] at t1
  have t2 := trim_d true (digs (x.natAbs % y.natAbs)) (decide (x < 0)) (digs_ok _)
  rw [val_digs, tmod_sign] at t2
  have w1 := wword_d xn x hX
  have w2 := wword_d yn y hY
  generalize x.tdiv y = q at *
  generalize x.tmod y = r at *
  clear hx2 hy2
  repeat' (first
    | (with_reducible first | refine sA ?_ ?_ | refine sB ?_ ?_ | refine sC ?_ ?_ | refine sD ?_ ?_ | refine sE ?_ ?_ | refine sF ?_ ?_) <;> intro h
    | refine clK_mk (w1) rfl ?_
    | refine clK_mk (w2) rfl ?_
    | refine clK_mk (hq) rfl ?_
    | refine clK_mk (hr) rfl ?_
    | refine clK_mk (t1) rfl ?_
    | refine clK_mk (t2) rfl ?_
    | simp only [go_sem, *])
theorem digs_dbl {r b n : Nat} (h : r ≤ 2 * b) (hb : (digs b).length ≤ n) : (digs r).length ≤ n + 1 := digs_length_le (by
  rw [Nat.pow_succ]
  have h1 := lt_of_digs_length hb
  have h2 : B ^ n * 2 ≤ B ^ n * B := Nat.mul_le_mul_left _ (by decide)
  omega)
theorem div_big (xn yn : Bool) (x y : Int) (hx : fits x) (hy : fits y) (hb : ¬ ((digs x.natAbs).length ≤ 2 ∧ (digs y.natAbs).length ≤ 2)) (hy0 : y ≠ 0) : DCall Tryz.prog 214 [encI xn x, encI yn y] (.tup [encI true (x.tdiv y), encI true (x.tmod y)]) := by
  refine dcall_mk orders Tryz.func214 rfl (by kernel_rfl) (fun d => d == 4 || d == 5 || d == 8 || d == 9 || d == 35 || d == 43 || d == 51 || d == 78 || d == 81 || d == 87 || d == 94) (by kernel_rfl) rfl (fun hs => ?_)
  clear hs
  have hx' : (digs x.natAbs).length ≤ 400000 := hx
  have hy' : (digs y.natAbs).length ≤ 400000 := hy
  have f0 : (decide (((digs x.natAbs).length : Int) ≤ 2) = true → decide (((digs y.natAbs).length : Int) ≤ 2) = false) := fun h => decide_eq_false (fun h2 => hb ⟨by have := of_decide_eq_true h; omega, by omega⟩)
  have f2 : IntKind.i64.wrap (32 * ((digs x.natAbs).length : Int)) = 32 * ((digs x.natAbs).length : Int) := wrap_i64 (by omega) (by omega)
  have f3 : IntKind.i64.wrap (32 * ((digs x.natAbs).length : Int) - 1) = ((32 * (digs x.natAbs).length : Nat) : Int) - 1 := by rw [wrap_i64 (by omega) (by omega)]; omega
  have t1 := fun l (h : okD l) => trim_d true l (decide (x < 0) != decide (y < 0)) h
  have t2 := trim_d true (digs (x.natAbs % y.natAbs)) (decide (x < 0)) (digs_ok _)
  rw [val_digs, tmod_sign] at t2
  have hX0 : x.natAbs / 2 ^ (32 * (digs x.natAbs).length) = 0 := by
    refine Nat.div_eq_of_lt ?_
    have := lt_of_digs_length (Nat.le_refl (digs x.natAbs).length)
    rwa [B_two, ← Nat.pow_mul] at this
  have hcmp := fun r (hr : (digs r).length ≤ 1000000) => compare_d true yn (digs r) (digs y.natAbs) (digs_ok _) (digs_ok _) hr hy.le
  have hbit := fun i hi => bit_d xn x hx i hi
  have hq0 : 0 < y.natAbs := by omega
  unfold encI intC at hbit
  by_cases hc : decide (((digs x.natAbs).length : Int) ≤ 2) = true
  case' pos => have f1 := f0 hc
  all_goals
    clear f0 hb
    repeat' (first
      | (with_reducible first | refine sA ?_ ?_ | refine sB ?_ ?_ | refine sC ?_ ?_ | refine sD ?_ ?_ | refine sE ?_ ?_ | refine sF ?_ ?_) <;> intro h
      | simp only [go_sem, *])
    refine hpK_if ⟨by omega, by omega⟩ ?_
    repeat' (first
      | (with_reducible first | refine sA ?_ ?_ | refine sB ?_ ?_ | refine sC ?_ ?_ | refine sD ?_ ?_ | refine sE ?_ ?_ | refine sF ?_ ?_) <;> intro h
      | simp only [go_sem, *])
    refine loop_mk (fun m s' => ∃ (i : Nat) (q : List Nat), m = i ∧ i ≤ 32 * (digs x.natAbs).length ∧ s'.sl 12 = .t (i64 ((i : Int) - 1)) ∧ s'.sl 11 = .t (.sl true (dl (digs (x.natAbs / 2 ^ i % y.natAbs)))) ∧ hget s'.hp (51, 0) = some ⟨(dl q).map .t, 1, (digs x.natAbs).length, tU32, false, true⟩ ∧
      hget s'.hp (4, 0) = some ⟨[.t (.sl false []), .t (.bool false)], 2, 1, tWInt, true, true⟩ ∧ hget s'.hp (5, 0) = some ⟨[.t (.sl false []), .t (.bool false)], 2, 1, tWInt, true, true⟩ ∧ q.length = (digs x.natAbs).length ∧ okD q ∧ val q = x.natAbs / 2 ^ i / y.natAbs * 2 ^ i) (32 * (digs x.natAbs).length)
      ⟨32 * (digs x.natAbs).length, List.replicate (digs x.natAbs).length 0, rfl, Nat.le_refl _, rfl, by rw [hX0, Nat.zero_mod, digs_zero]; rfl, rfl, rfl, rfl, by simp, okD_zeros _, by rw [val_zeros, hX0]; simp⟩ ?_
    rintro i s' ⟨_, q, rfl, hi, h12, h11, h51, h4, h5, hql, hqo, hqv⟩ hfr G hG
    have c2 := hfr 2 (by kernel_rfl)
    have c3 := hfr 3 (by kernel_rfl)
    have c4 := hfr 4 (by kernel_rfl)
    have c5 := hfr 5 (by kernel_rfl)
    have c10 := hfr 10 (by kernel_rfl)
    clear hfr
    simp only [go_sem] at c2 c3 c4 c5 c10
    change _ = PV.rf (51, 0) (digs x.natAbs).length at c10
    change _ = PV.ad (4, 0) 1 0 at c4
    change _ = PV.ad (5, 0) 1 0 at c5
    cases i with
    | zero =>
      have g1 : decide ((((0 : Nat) : Int) - 1) ≥ 0) = false := rfl
      rw [Nat.pow_zero, Nat.div_one] at h11 hqv
      rw [Nat.mul_one] at hqv
      have t1 := t1 q hqo
      rw [hqv, tdiv_sign] at t1
      have hdep := toTr_ints 5 h51
      change toTr s'.hp dep _ = _ at hdep
      have hz4 := frz_row (m := (digs x.natAbs).length) h51 h4 rfl
      have hz5 := frz_row (m := (digs x.natAbs).length) h51 h5 rfl
      clear hcmp hbit hqv
      repeat' (first
        | (with_reducible first | refine sA ?_ ?_ | refine sB ?_ ?_ | refine sC ?_ ?_ | refine sD ?_ ?_ | refine sE ?_ ?_ | refine sF ?_ ?_) <;> intro h
        | simp only [go_sem, *])
      refine clK_fx t1 (by simp only [go_sem, hdep]) rfl ?_
      repeat' (first
        | (with_reducible first | refine sA ?_ ?_ | refine sB ?_ ?_ | refine sC ?_ ?_ | refine sD ?_ ?_ | refine sE ?_ ?_ | refine sF ?_ ?_) <;> intro h
        | refine clK_mk (t2) rfl ?_
        | simp only [go_sem, *])
    | succ j =>
      have e0 : (((j + 1 : Nat) : Int) - 1) = (j : Int) := by omega
      rw [e0] at h12
      have hj : j < 32 * (digs x.natAbs).length := by omega
      have g1 : decide (((j : Nat) : Int) ≥ 0) = true := by simp
      have hbj := hbit j hj
      obtain ⟨d1, d2⟩ := div_step x.natAbs y.natAbs j hq0
      have hlenR : (digs (x.natAbs / 2 ^ (j + 1) % y.natAbs)).length ≤ 400000 := Nat.le_trans (digs_length_mono (Nat.le_of_lt (Nat.mod_lt _ hq0))) hy'
      have hsh := shift_d true (digs (x.natAbs / 2 ^ (j + 1) % y.natAbs)) (x.natAbs / 2 ^ j % 2) (digs_ok _) (by omega) (by omega)
      rw [val_digs] at hsh
      have hRl : (digs (2 * (x.natAbs / 2 ^ (j + 1) % y.natAbs) + x.natAbs / 2 ^ j % 2)).length ≤ 400000 + 1 := digs_dbl (b := y.natAbs) (by have := Nat.mod_lt (x.natAbs / 2 ^ (j + 1)) hq0; omega) hy'
      have g5 : IntKind.i64.wrap ((j : Int) - 1) = (j : Int) - 1 := wrap_i64 (by omega) (by omega)
      have hmulti : val q % 2 ^ (j + 1) = 0 := by rw [hqv]; exact Nat.mul_mod_left _ _
      have hjq : j / 32 < q.length := by omega
      obtain ⟨q1, q2⟩ := quot_set hqo hmulti hjq
      have hroom := digit_room hqo hmulti
      have hu1 : q.getD (j / 32) 0 < B := Nat.lt_of_le_of_lt (Nat.le_add_right _ _) hroom
      have hp1 : 2 ^ (j % 32) < B := Nat.lt_of_le_of_lt (Nat.le_add_left _ _) hroom
      have horB : q.getD (j / 32) 0 ||| 2 ^ (j % 32) = q.getD (j / 32) 0 + 2 ^ (j % 32) := or_bit (digit_low hqo hmulti)
      have hqget : q[j / 32]? = some (q.getD (j / 32) 0) := by rw [List.getD_eq_getElem?_getD, List.getElem?_eq_getElem hjq]; rfl
      have e2 : x.natAbs / 2 ^ (j + 1) / y.natAbs * 2 ^ (j + 1) = 2 * (x.natAbs / 2 ^ (j + 1) / y.natAbs) * 2 ^ j := by rw [Nat.pow_succ]; rw [Nat.mul_comm 2, Nat.mul_assoc, Nat.mul_comm 2]
      rw [hqv, e2] at q2
      rw [e2] at hqv
      generalize hQ1 : x.natAbs / 2 ^ j / y.natAbs = Q1 at *
      generalize hR1 : x.natAbs / 2 ^ j % y.natAbs = R1 at *
      generalize x.natAbs / 2 ^ (j + 1) / y.natAbs = Q0 at *
      generalize 2 * (x.natAbs / 2 ^ (j + 1) % y.natAbs) + x.natAbs / 2 ^ j % 2 = R0 at *
      generalize x.natAbs / 2 ^ (j + 1) % y.natAbs = R00 at *
      generalize x.natAbs / 2 ^ j % 2 = bt at *
      have hc1 := hcmp R0 (by omega)
      by_cases hR : y.natAbs ≤ R0
      · rw [if_pos hR] at d1 d2
        have g2 : decide (cmpD (digs R0) (digs y.natAbs) ≥ 0) = true := decide_eq_true ((cmpD_digs _ _).2 hR)
        obtain ⟨rr, m1, m2, m3⟩ := minus_d true yn (digs R0) (digs y.natAbs) (digs_ok _) (digs_ok _) (digs_length_mono hR) (by rw [val_digs, val_digs]; exact hR) (by omega)
        rw [val_digs, val_digs] at m2
        have m4 := trim_raw true rr false
        rw [strip_digs m1, m2, ← d1] at m4
        have g3 : IntKind.i64.wrap ((j : Int).tdiv 32) = ((j / 32 : Nat) : Int) := by
          rw [show (j : Int).tdiv 32 = ((j / 32 : Nat) : Int) by rw [Int.tdiv_eq_ediv_of_nonneg (by omega)]; omega]
          exact wrap_i64 (by omega) (by omega)
        have g4 : (j : Int).tmod 32 = ((j % 32 : Nat) : Int) := by rw [Int.tmod_eq_emod_of_nonneg (by omega)]; omega
        have g6 : (((j % 32 : Nat) : Int) < 0) ↔ False := by simp; omega
        have g7 : IntKind.u32.wrap (1 * 2 ^ (min (j % 32) 32)) = ((2 ^ (j % 32) : Nat) : Int) := by
          rw [Nat.min_eq_left (by omega), Int.one_mul]
          have : (2 : Int) ^ (j % 32) = ((2 ^ (j % 32) : Nat) : Int) := by simp
          rw [this]; exact wrap_u32_lt hp1
        have g8 := or_u32 (P := Tryz.prog) (h := s'.hp) 215 (a := q.getD (j / 32) 0) (b := 2 ^ (j % 32)) hu1 hp1
        have hjl : j / 32 < (digs x.natAbs).length := by omega
        have hjl1 : j / 32 + 1 ≤ (digs x.natAbs).length := hjl
        rw [horB] at g8 q1 q2
        clear hcmp hbit t1 t2 hmulti hroom horB m1 m2 hlenR hRl hu1 hp1
        generalize q.getD (j / 32) 0 = u at *
        generalize 2 ^ (j % 32) = pw at *
        repeat' (first
          | (with_reducible first | refine sA ?_ ?_ | refine sB ?_ ?_ | refine sC ?_ ?_ | refine sD ?_ ?_ | refine sE ?_ ?_ | refine sF ?_ ?_) <;> intro h
          | refine clK_mk (hbj) rfl ?_
          | refine clK_mk (hsh) rfl ?_
          | refine clK_mk (hc1) rfl ?_
          | refine clK_mk (m3) rfl ?_
          | refine clK_mk (m4) rfl ?_
          | simp only [go_sem, *])
        refine hG j _ (Nat.lt_succ_self j) ⟨j, q.set (j / 32) (u + pw), rfl, by omega, rfl, ?_, ?_, ?_, ?_, by simp [hql], q1, ?_⟩
        · rw [hR1, d1]; rfl
        · simp only [go_sem, h51]
        · simp only [go_sem, h4]
        · simp only [go_sem, h5]
        · rw [q2, hQ1, d2, Nat.add_mul, Nat.one_mul]
      · rw [if_neg hR] at d1 d2
        have g2 : decide (cmpD (digs R0) (digs y.natAbs) ≥ 0) = false := decide_eq_false (fun h => hR ((cmpD_digs _ _).1 h))
        clear hcmp hbit t1 t2 hmulti hroom horB hlenR hRl q1 q2 hu1 hp1
        repeat' (first
          | (with_reducible first | refine sA ?_ ?_ | refine sB ?_ ?_ | refine sC ?_ ?_ | refine sD ?_ ?_ | refine sE ?_ ?_ | refine sF ?_ ?_) <;> intro h
          | refine clK_mk (hbj) rfl ?_
          | refine clK_mk (hsh) rfl ?_
          | refine clK_mk (hc1) rfl ?_
          | simp only [go_sem, *])
        refine hG j _ (Nat.lt_succ_self j) ⟨j, q, rfl, by omega, rfl, ?_, ?_, ?_, ?_, hql, hqo, ?_⟩
        · rw [hR1, d1]; rfl
        · exact h51
        · exact h4
        · exact h5
        · rw [hqv, hQ1, d2, Nat.add_zero]
theorem div_d (xn yn : Bool) (x y : Int) (hx : fits x) (hy : fits y) (hy0 : y ≠ 0) : DCall Tryz.prog 214 [encI xn x, encI yn y] (.tup [encI true (x.tdiv y), encI true (x.tmod y)]) := by
  by_cases h : (digs x.natAbs).length ≤ 2 ∧ (digs y.natAbs).length ≤ 2
  · exact div_small xn yn x y h.1 h.2 hy0
  · exact div_big xn yn x y hx hy h hy0
end YtihgdplbehempaaGreat
end Go.Vm
end
section
set_option linter.unusedSimpArgs false
set_option maxRecDepth 10000
namespace Go.Vm
open Go Go.Proofs Go.Whole
namespace YtihgdplbehempaaGreat
open Go.Proofs.Tryz
theorem wsmall_d (nn : Bool) (z : Int) (m : Nat) (hm : m ≤ 4611686018427387904) : DCall Tryz.prog 144 [encI nn z, i64 m] (.tup [i64 (if z.natAbs ≤ m then z else 0), .bool (decide (z.natAbs ≤ m))]) := by
  refine dcall_mk orders Tryz.func144 rfl (by kernel_rfl) noMu (by kernel_rfl) rfl (fun hs => ?_)
  clear hs
  have f1 := wrap_u64_lt (n := m) (by omega)
  by_cases hl : (digs z.natAbs).length ≤ 2
  · have hz : z.natAbs < 18446744073709551616 := by have := lt_of_digs_length hl; rwa [show B ^ 2 = 18446744073709551616 by decide] at this
    have g1 : decide (((digs z.natAbs).length : Int) > 2) = false := decide_eq_false (by omega)
    have w := wword_d nn z hz
    by_cases hc : z.natAbs ≤ m
    · have g2 : decide (((z.natAbs : Nat) : Int) > (m : Int)) = false := decide_eq_false (by omega)
      rw [if_pos hc, decide_eq_true hc]
      have g3 : IntKind.i64.wrap ((z.natAbs : Nat) : Int) = z.natAbs := wrap_i64 (by omega) (by omega)
      have g4 : IntKind.i64.wrap (0 - ((z.natAbs : Nat) : Int)) = -(z.natAbs : Int) := by rw [show (0 - ((z.natAbs : Nat) : Int)) = -(z.natAbs : Int) by omega]; exact wrap_i64 (by omega) (by omega)
      clear hc
      by_cases hs : z < 0
      · have g5 : decide (z < 0) = true := decide_eq_true hs
        have e : -(z.natAbs : Int) = z := by omega
        unfold encI intC at w
        rw [g5] at w
        repeat' (first
          | (with_reducible first | refine sA ?_ ?_ | refine sB ?_ ?_ | refine sC ?_ ?_ | refine sD ?_ ?_ | refine sE ?_ ?_ | refine sF ?_ ?_) <;> intro h
          | refine clK_mk (w) rfl ?_
          | simp only [go_sem, *])
      · have g5 : decide (z < 0) = false := decide_eq_false hs
        have e : (z.natAbs : Int) = z := by omega
        rw [e] at g3 g2
        unfold encI intC at w
        rw [g5, e] at w
        repeat' (first
          | (with_reducible first | refine sA ?_ ?_ | refine sB ?_ ?_ | refine sC ?_ ?_ | refine sD ?_ ?_ | refine sE ?_ ?_ | refine sF ?_ ?_) <;> intro h
          | refine clK_mk (w) rfl ?_
          | simp only [go_sem, *])
    · have g2 : decide (((z.natAbs : Nat) : Int) > (m : Int)) = true := decide_eq_true (by omega)
      rw [if_neg hc, decide_eq_false hc]
      clear hc
      repeat' (first
        | (with_reducible first | refine sA ?_ ?_ | refine sB ?_ ?_ | refine sC ?_ ?_ | refine sD ?_ ?_ | refine sE ?_ ?_ | refine sF ?_ ?_) <;> intro h
        | refine clK_mk (w) rfl ?_
        | simp only [go_sem, *])
  · have g1 : decide (((digs z.natAbs).length : Int) > 2) = true := decide_eq_true (by omega)
    have hc : ¬ z.natAbs ≤ m := by
      intro h
      exact hl (digs_length.2 (by rw [show B ^ 2 = 18446744073709551616 by decide]; omega))
    rw [if_neg hc, decide_eq_false hc]
    clear hc
    repeat' (first
      | (with_reducible first | refine sA ?_ ?_ | refine sB ?_ ?_ | refine sC ?_ ?_ | refine sD ?_ ?_ | refine sE ?_ ?_ | refine sF ?_ ?_) <;> intro h
      | simp only [go_sem, *])
theorem gcd_d (x y : Int) (hx : fits x) (hy : fits y) : DCall Tryz.prog 249 [encI true x, encI true y] (encI true (Int.gcd x y)) := by
  refine dcall_mk orders Tryz.func249 rfl (by kernel_rfl) (fun d => d == 2 || d == 3 || d == 4 || d == 5 || d == 6 || d == 1000002 || d == 1000006) (by kernel_rfl) rfl (fun hs => ?_)
  clear hs
  have a1 := abs_d true x
  have a2 := abs_d true y
  repeat' (first
    | (with_reducible first | refine sA ?_ ?_ | refine sB ?_ ?_ | refine sC ?_ ?_ | refine sD ?_ ?_ | refine sE ?_ ?_ | refine sF ?_ ?_) <;> intro h
    | refine clK_mk (a1) rfl ?_
    | refine clK_mk (a2) rfl ?_
    | simp only [go_sem, *])
  refine loop_mk (fun m s' => ∃ a b : Nat, m = b ∧ hget s'.hp (2, 0) = some ⟨(intC true a).map .t, 2, 1, tWInt, true, true⟩ ∧ hget s'.hp (3, 0) = some ⟨(intC true b).map .t, 2, 1, tWInt, true, true⟩ ∧ hget s'.hp (4, 0) = some ⟨[.t (.sl false []), .t (.bool false)], 2, 1, tWInt, true, true⟩ ∧ fits a ∧ fits b ∧ Nat.gcd a b = Int.gcd x y) y.natAbs
    ⟨x.natAbs, y.natAbs, rfl, rfl, rfl, rfl, fits_mono (by omega) hx, fits_mono (by omega) hy, rfl⟩ ?_
  rintro b s' ⟨a, _, rfl, h2, h3, h4, ha, hb, hg⟩ hfr G hG
  have c2 := hfr 2 (by kernel_rfl)
  have c3 := hfr 3 (by kernel_rfl)
  have c4 := hfr 4 (by kernel_rfl)
  clear hfr
  simp only [go_sem] at c2 c3 c4
  change _ = PV.ad (2, 0) 1 0 at c2
  change _ = PV.ad (3, 0) 1 0 at c3
  change _ = PV.ad (4, 0) 1 0 at c4
  have sg := sign_d true (b : Int)
  by_cases h0 : b = 0
  · subst h0
    rw [Nat.gcd_zero_right] at hg
    subst hg
    rw [show ((0 : Nat) : Int).sign = 0 from rfl] at sg
    repeat' (first
      | (with_reducible first | refine sA ?_ ?_ | refine sB ?_ ?_ | refine sC ?_ ?_ | refine sD ?_ ?_ | refine sE ?_ ?_ | refine sF ?_ ?_) <;> intro h
      | refine clK_mk (sg) rfl ?_
      | simp only [go_sem, *])
  · rw [show ((b : Nat) : Int).sign = 1 from Int.sign_eq_one_of_pos (by omega)] at sg
    have dv := div_d true true (a : Int) (b : Int) ha hb (by omega)
    rw [show (a : Int).tmod (b : Int) = ((a % b : Nat) : Int) from rfl] at dv
    have hlt : a % b < b := Nat.mod_lt _ (by omega)
    have hg2 : Nat.gcd b (a % b) = Int.gcd x y := by rw [← hg, Nat.gcd_comm a b, Nat.gcd_rec b a, Nat.gcd_comm]
    generalize (a : Int).tdiv (b : Int) = q at *
    generalize a % b = r at *
    repeat' (first
      | (with_reducible first | refine sA ?_ ?_ | refine sB ?_ ?_ | refine sC ?_ ?_ | refine sD ?_ ?_ | refine sE ?_ ?_ | refine sF ?_ ?_) <;> intro h
      | refine clK_mk (sg) rfl ?_
      | refine clK_mk (dv) rfl ?_
      | simp only [go_sem, *])
    refine hG r _ hlt ⟨b, r, rfl, ?_, ?_, ?_, hb, fits_mono (by omega) hb, hg2⟩
    · simp only [go_sem, h2]
    · simp only [go_sem, h3]
    · simp only [go_sem, h4]
def lcmN : Nat → List Nat → Nat
  | o, [] => o
  | o, x :: l => lcmN (Nat.lcm o x) l
def natI (n : Nat) : Tr := encI true (n : Int)
theorem fits_dvd {a d : Nat} (hd : d ≠ 0) (h : a ∣ d) (hf : fits (d : Int)) : fits (a : Int) := fits_mono (by have := Nat.le_of_dvd (Nat.pos_of_ne_zero hd) h; omega) hf
theorem lcm_step (o x : Nat) (ho : 0 < o) (hx : 0 < x) : (o : Int) * (x : Int).tdiv (Int.gcd o x : Nat) = ((Nat.lcm o x : Nat) : Int) := by
  have hg : Int.gcd (o : Int) (x : Int) = Nat.gcd o x := rfl
  rw [hg, show (x : Int).tdiv ((Nat.gcd o x : Nat) : Int) = ((x / Nat.gcd o x : Nat) : Int) from rfl, ← Int.natCast_mul]
  congr 1
  rw [Nat.lcm, Nat.mul_div_assoc _ (Nat.gcd_dvd_right o x)]
theorem lcm_d (nn : Bool) (l : List Nat) (d : Nat) (hd0 : d ≠ 0) (hf : fits (d : Int)) (hl : ∀ x ∈ l, 0 < x ∧ x ∣ d) (hlen : l.length ≤ 1000000) : DCall Tryz.prog 213 [.sl nn (l.map natI)] (natI (lcmN 1 l)) := by
  refine dcall_mk orders Tryz.func213 rfl (by kernel_rfl) (fun d => d == 2 || d == 3 || d == 5 || d == 6 || d == 7) (by kernel_rfl) rfl (fun hs => ?_)
  clear hs
  unfold natI
  have o1 := of_d 1 ⟨by decide, by decide⟩
  repeat' (first
    | (with_reducible first | refine sA ?_ ?_ | refine sB ?_ ?_ | refine sC ?_ ?_ | refine sD ?_ ?_ | refine sE ?_ ?_ | refine sF ?_ ?_) <;> intro h
    | refine clK_mk (o1) rfl ?_
    | simp only [go_sem, *])
  refine loop_range l (fun k s' => ∃ o : Nat, hget s'.hp (3, 0) = some ⟨(intC true o).map .t, 2, 1, tWInt, true, true⟩ ∧ hget s'.hp (2, 0) = some ⟨[.t (.sl false []), .t (.bool false)], 2, 1, tWInt, true, true⟩ ∧ 0 < o ∧ o ∣ d ∧ lcmN 1 l = lcmN o (l.drop k)) rfl rfl (by first | assumption | omega) (by kernel_rfl) (fun _ _ _ _ hj => hj) (fun _ _ _ hj => hj) ?_ (fun k x s' hx hd hk hJ hix hfr G hG => ?_) (fun s' hJ hfr => ?_)
  · exact ⟨1, rfl, rfl, Nat.one_pos, Nat.one_dvd d, rfl⟩
  · have c3 := hfr 3 (by kernel_rfl)
    have c9 := hfr 9 (by kernel_rfl)
    clear hfr
    simp only [go_sem] at c3 c9
    change _ = PV.ad (3, 0) 1 0 at c3
    obtain ⟨o, h3, h2, ho, hod, hJ⟩ := hJ
    obtain ⟨hx0, hxd⟩ := hl x (List.mem_of_getElem? hx)
    rw [hd, lcmN] at hJ
    have fo := fits_dvd hd0 hod hf
    have fx := fits_dvd hd0 hxd hf
    have g0 := Nat.gcd_pos_of_pos_left x ho
    have hgd := gcd_d (o : Int) (x : Int) fo fx
    have hdv := div_d true true (x : Int) (Int.gcd o x : Nat) fx (fits_mono (by have := Nat.gcd_le_right o hx0; show Nat.gcd o x ≤ x; exact this) fx) (by have : Int.gcd (o : Int) (x : Int) = Nat.gcd o x := rfl; omega)
    have hmu := mul_d true true (o : Int) ((x : Int).tdiv (Int.gcd o x : Nat)) fo (fits_mono (by rw [show (x : Int).tdiv (Int.gcd o x : Nat) = ((x / Nat.gcd o x : Nat) : Int) from rfl]; rw [Int.natAbs_natCast, Int.natAbs_natCast]; exact Nat.div_le_self _ _) fx)
    rw [lcm_step o x ho hx0] at hmu
    have hlp : 0 < Nat.lcm o x := Nat.lcm_pos ho hx0
    have hld : Nat.lcm o x ∣ d := Nat.lcm_dvd hod hxd
    generalize (x : Int).tdiv (Int.gcd o x : Nat) = u at *
    generalize (x : Int).tmod (Int.gcd o x : Nat) = u2 at *
    generalize Int.gcd (o : Int) (x : Int) = g at *
    repeat' (first
      | (with_reducible first | refine sA ?_ ?_ | refine sB ?_ ?_ | refine sC ?_ ?_ | refine sD ?_ ?_ | refine sE ?_ ?_ | refine sF ?_ ?_) <;> intro h
      | refine clK_mk (hgd) rfl ?_
      | refine clK_mk (hdv) rfl ?_
      | refine clK_mk (hmu) rfl ?_
      | simp only [go_sem, *])
    refine hG _ ⟨Nat.lcm o x, ?_, ?_, hlp, hld, hJ⟩
    · simp only [go_sem, h3]
    · simp only [go_sem, h2]
  · obtain ⟨o, h3, h2, ho, hod, hJ⟩ := hJ
    have c2 := hfr 2 (by kernel_rfl)
    have c3 := hfr 3 (by kernel_rfl)
    clear hfr
    simp only [go_sem] at c2 c3
    change _ = PV.ad (3, 0) 1 0 at c3
    change _ = PV.ad (2, 0) 1 0 at c2
    rw [List.drop_length, lcmN] at hJ
    rw [hJ]
    repeat' (first
      | (with_reducible first | refine sA ?_ ?_ | refine sB ?_ ?_ | refine sC ?_ ?_ | refine sD ?_ ?_ | refine sE ?_ ?_ | refine sF ?_ ?_) <;> intro h
      | simp only [go_sem, *])
end YtihgdplbehempaaGreat
end Go.Vm
end
section
set_option linter.unusedSimpArgs false
set_option maxRecDepth 10000
namespace Go.Vm
open Go Go.Proofs Go.Whole
namespace YtihgdplbehempaaGreat
open Go.Proofs.Tryz
attribute [go_sem] Tryz.results216 Tryz.results255 Tryz.results256 Tryz.results217 Tryz.results254 Tryz.results210 Tryz.results140 Tryz.results147 Tryz.results148 Tryz.results80 Tryz.results142 Tryz.results211 Tryz.results141 Tryz.results145 Tryz.results146 Tryz.results209 Tryz.results143
abbrev tRat : TypeId := 131
theorem size_d (a : Int) (h : inI64 a) : DCall Tryz.prog 255 [i64 a] (.int .u64 (a.natAbs : Int)) := by
  obtain ⟨h1, h2⟩ := h
  refine dcall_mk orders Tryz.func255 rfl (by kernel_rfl) noMu (by kernel_rfl) rfl (fun hs => ?_)
  clear hs
  by_cases hz : a < 0
  · have f0 : decide (a < 0) = true := decide_eq_true hz
    have f1 := wrap_u64_neg h1 hz
    have f2 := wrap_u64_sub (n := a.natAbs) (by omega) (by omega)
    rw [Nat.mod_eq_of_lt (by omega)] at f2
    repeat' (first
      | (with_reducible first | refine sA ?_ ?_ | refine sB ?_ ?_ | refine sC ?_ ?_ | refine sD ?_ ?_ | refine sE ?_ ?_ | refine sF ?_ ?_) <;> intro h
      | simp only [go_sem, *])
  · have f0 : decide (a < 0) = false := decide_eq_false hz
    have f1 := wrap_u64_pos h2 (by omega)
    repeat' (first
      | (with_reducible first | refine sA ?_ ?_ | refine sB ?_ ?_ | refine sC ?_ ?_ | refine sD ?_ ?_ | refine sE ?_ ?_ | refine sF ?_ ?_) <;> intro h
      | simp only [go_sem, *])
theorem mul64_split (x y : Nat) (hx : x < 18446744073709551616) (hy : y < 18446744073709551616) :
    let x0 := x % 4294967296; let x1 := x / 4294967296; let y0 := y % 4294967296; let y1 := y / 4294967296
    x0 * y0 ≤ 18446744065119617025 ∧ x1 * y0 ≤ 18446744065119617025 ∧ x0 * y1 ≤ 18446744065119617025 ∧ x1 * y1 ≤ 18446744065119617025 ∧ x * y = x0 * y0 + 4294967296 * (x1 * y0 + x0 * y1) + 18446744073709551616 * (x1 * y1) := by
  intro x0 x1 y0 y1
  have hx0 : x0 ≤ 4294967295 := by show x % 4294967296 ≤ _; omega
  have hx1 : x1 ≤ 4294967295 := by show x / 4294967296 ≤ _; omega
  have hy0 : y0 ≤ 4294967295 := by show y % 4294967296 ≤ _; omega
  have hy1 : y1 ≤ 4294967295 := by show y / 4294967296 ≤ _; omega
  refine ⟨Nat.mul_le_mul hx0 hy0, Nat.mul_le_mul hx1 hy0, Nat.mul_le_mul hx0 hy1, Nat.mul_le_mul hx1 hy1, ?_⟩
  have ex : x = x0 + 4294967296 * x1 := by show x = x % 4294967296 + 4294967296 * (x / 4294967296); omega
  have ey : y = y0 + 4294967296 * y1 := by show y = y % 4294967296 + 4294967296 * (y / 4294967296); omega
  rw [ex, ey]
  simp only [Nat.add_mul, Nat.mul_add]
  have e1 : 4294967296 * x1 * (4294967296 * y1) = 18446744073709551616 * (x1 * y1) := by rw [Nat.mul_mul_mul_comm]
  have e2 : 4294967296 * x1 * y0 = 4294967296 * (x1 * y0) := Nat.mul_assoc _ _ _
  have e3 : x0 * (4294967296 * y1) = 4294967296 * (x0 * y1) := Nat.mul_left_comm _ _ _
  rw [e1, e2, e3]; omega
section
variable {P : Program} {h : Hp} (t : TypeId)
theorem and_mask {a : Nat} (ha : a < 18446744073709551616) : binPV P h .and t (.t (.int .u64 (a : Int))) (.t (.int .u64 4294967295)) = some (.t (.int .u64 ((a % 4294967296 : Nat) : Int))) := by
  rw [bin_and]
  have e1 : BitVec.ofInt IntKind.u64.bits (a : Int) = BitVec.ofNat 64 a := ofInt_nat 64 a
  have e2 : BitVec.ofInt IntKind.u64.bits 4294967295 = BitVec.ofNat 64 4294967295 := ofInt_nat 64 4294967295
  rw [e1, e2]
  have e3 : (BitVec.ofNat 64 a &&& BitVec.ofNat 64 4294967295).toNat = a % 4294967296 := by
    rw [BitVec.toNat_and, BitVec.toNat_ofNat, BitVec.toNat_ofNat, Nat.mod_eq_of_lt ha]
    exact Nat.and_two_pow_sub_one_eq_mod a 32
  have e4 : IntKind.u64.wrap (((BitVec.ofNat 64 a &&& BitVec.ofNat 64 4294967295).toNat : Nat) : Int) = ((a % 4294967296 : Nat) : Int) := by
    rw [e3]; exact wrap_u64_lt (by omega)
  exact congrArg (fun z => some (PV.t (.int .u64 z))) e4
end
theorem mul64_d (x y : Nat) (hx : x < 18446744073709551616) (hy : y < 18446744073709551616) : DCall Tryz.prog 254 [.int .u64 (x : Int), .int .u64 (y : Int)] (.tup [.int .u64 ((x * y / 18446744073709551616 : Nat) : Int), .int .u64 ((x * y % 18446744073709551616 : Nat) : Int)]) := by
  obtain ⟨b1, b2, b3, b4, e⟩ := mul64_split x y hx hy
  have mx := and_mask (P := Tryz.prog) (h := fun _ => []) 38 hx
  have my := and_mask (P := Tryz.prog) (h := fun _ => []) 38 hy
  have hlo := u64_mul x y
  rw [e] at hlo ⊢
  clear e hx hy
  have m1 := u64_mul (x % 4294967296) (y % 4294967296)
  have m2 := u64_mul (x / 4294967296) (y % 4294967296)
  have m3 := u64_mul (x % 4294967296) (y / 4294967296)
  have m4 := u64_mul (x / 4294967296) (y / 4294967296)
  generalize x % 4294967296 * (y % 4294967296) = p0 at *
  generalize x / 4294967296 * (y % 4294967296) = p1 at *
  generalize x % 4294967296 * (y / 4294967296) = p2 at *
  generalize x / 4294967296 * (y / 4294967296) = p3 at *
  rw [Nat.mod_eq_of_lt (show p0 < 18446744073709551616 by omega)] at m1
  rw [Nat.mod_eq_of_lt (show p1 < 18446744073709551616 by omega)] at m2
  rw [Nat.mod_eq_of_lt (show p2 < 18446744073709551616 by omega)] at m3
  rw [Nat.mod_eq_of_lt (show p3 < 18446744073709551616 by omega)] at m4
  have s1 := u64_add p1 (p0 / 4294967296)
  rw [Nat.mod_eq_of_lt (by omega)] at s1
  have mw := and_mask (P := Tryz.prog) (h := fun _ => []) 38 (a := p1 + p0 / 4294967296) (by omega)
  have s2 := u64_add ((p1 + p0 / 4294967296) % 4294967296) p2
  rw [Nat.mod_eq_of_lt (show (p1 + p0 / 4294967296) % 4294967296 + p2 < 18446744073709551616 by omega)] at s2
  have s3 := u64_add p3 ((p1 + p0 / 4294967296) / 4294967296)
  rw [Nat.mod_eq_of_lt (by omega)] at s3
  have s4 := u64_add (p3 + (p1 + p0 / 4294967296) / 4294967296) (((p1 + p0 / 4294967296) % 4294967296 + p2) / 4294967296)
  rw [Nat.mod_eq_of_lt (show p3 + (p1 + p0 / 4294967296) / 4294967296 + ((p1 + p0 / 4294967296) % 4294967296 + p2) / 4294967296 < 18446744073709551616 by omega)] at s4
  have eh : (p0 + 4294967296 * (p1 + p2) + 18446744073709551616 * p3) / 18446744073709551616 = p3 + (p1 + p0 / 4294967296) / 4294967296 + ((p1 + p0 / 4294967296) % 4294967296 + p2) / 4294967296 := by omega
  rw [eh]
  clear eh b1 b2 b3 b4
  refine dcall_mk orders Tryz.func254 rfl (by kernel_rfl) noMu (by kernel_rfl) rfl (fun hs => ?_)
  repeat' (first
    | (with_reducible first | refine sA ?_ ?_ | refine sB ?_ ?_ | refine sC ?_ ?_ | refine sD ?_ ?_ | refine sE ?_ ?_ | refine sF ?_ ?_) <;> intro h
    | simp only [go_sem, *])
theorem most_eq : most = 4611686018427387903 := rfl
theorem times_d (a b : Int) (ha : a.natAbs ≤ most) (hb : b.natAbs ≤ most) : DCall Tryz.prog 216 [i64 a, i64 b] (.tup [i64 (if a.natAbs * b.natAbs ≤ most then a * b else 0), .bool (decide (a.natAbs * b.natAbs ≤ most))]) := by
  rw [most_eq] at ha hb ⊢
  have s1 := size_d a ⟨by omega, by omega⟩
  have s2 := size_d b ⟨by omega, by omega⟩
  have s3 := mul64_d a.natAbs b.natAbs (by omega) (by omega)
  have hsgn : a * b = if decide (a < 0) != decide (b < 0) then -((a.natAbs * b.natAbs : Nat) : Int) else ((a.natAbs * b.natAbs : Nat) : Int) := by
    rw [Int.natCast_mul]
    by_cases h1 : a < 0
    · have e1 : ((a.natAbs : Nat) : Int) = -a := by omega
      by_cases h2 : b < 0
      · have e2 : ((b.natAbs : Nat) : Int) = -b := by omega
        simp [h1, h2, e1, e2, Int.neg_mul, Int.mul_neg]
      · have e2 : ((b.natAbs : Nat) : Int) = b := by omega
        simp [h1, h2, e1, e2, Int.neg_mul, Int.mul_neg]
    · have e1 : ((a.natAbs : Nat) : Int) = a := by omega
      by_cases h2 : b < 0
      · have e2 : ((b.natAbs : Nat) : Int) = -b := by omega
        simp [h1, h2, e1, e2, Int.neg_mul, Int.mul_neg]
      · have e2 : ((b.natAbs : Nat) : Int) = b := by omega
        simp [h1, h2, e1, e2, Int.neg_mul, Int.mul_neg]
  rw [hsgn]
  clear hsgn
  generalize a.natAbs * b.natAbs = p at *
  by_cases hp : p ≤ 4611686018427387903
  · have e1 : p / 18446744073709551616 = 0 := by omega
    have e2 : p % 18446744073709551616 = p := by omega
    rw [e1, e2] at s3
    rw [if_pos hp, decide_eq_true hp]
    have g1 : decide (((0 : Nat) : Int) > 0) = false := rfl
    have g2 : decide ((p : Int) > 4611686018427387903) = false := decide_eq_false (by omega)
    have g3 : IntKind.i64.wrap (p : Int) = p := wrap_i64 (by omega) (by omega)
    have g4 : IntKind.i64.wrap (0 - (p : Int)) = -(p : Int) := by rw [show (0 - (p : Int)) = -(p : Int) by omega]; exact wrap_i64 (by omega) (by omega)
    refine dcall_mk orders Tryz.func216 rfl (by kernel_rfl) noMu (by kernel_rfl) rfl (fun hs => ?_)
    clear hs ha hb hp e1 e2
    by_cases hd : (decide (a < 0) != decide (b < 0)) = true
    · rw [if_pos hd]
      repeat' (first
        | (with_reducible first | refine sA ?_ ?_ | refine sB ?_ ?_ | refine sC ?_ ?_ | refine sD ?_ ?_ | refine sE ?_ ?_ | refine sF ?_ ?_) <;> intro h
        | refine clK_mk (s1) rfl ?_
        | refine clK_mk (s2) rfl ?_
        | refine clK_mk (s3) rfl ?_
        | simp only [go_sem, *])
    · rw [if_neg hd]
      have hd' : (decide (a < 0) != decide (b < 0)) = false := by simpa using hd
      clear hd
      repeat' (first
        | (with_reducible first | refine sA ?_ ?_ | refine sB ?_ ?_ | refine sC ?_ ?_ | refine sD ?_ ?_ | refine sE ?_ ?_ | refine sF ?_ ?_) <;> intro h
        | refine clK_mk (s1) rfl ?_
        | refine clK_mk (s2) rfl ?_
        | refine clK_mk (s3) rfl ?_
        | simp only [go_sem, *])
  · rw [if_neg hp, decide_eq_false hp]
    refine dcall_mk orders Tryz.func216 rfl (by kernel_rfl) noMu (by kernel_rfl) rfl (fun hs => ?_)
    clear hs ha hb
    by_cases h0 : p / 18446744073709551616 = 0
    · rw [h0, Nat.mod_eq_of_lt (by omega)] at s3
      have g1 : decide (((0 : Nat) : Int) > 0) = false := rfl
      have g2 : decide ((p : Int) > 4611686018427387903) = true := decide_eq_true (by omega)
      clear h0
      repeat' (first
        | (with_reducible first | refine sA ?_ ?_ | refine sB ?_ ?_ | refine sC ?_ ?_ | refine sD ?_ ?_ | refine sE ?_ ?_ | refine sF ?_ ?_) <;> intro h
        | refine clK_mk (s1) rfl ?_
        | refine clK_mk (s2) rfl ?_
        | refine clK_mk (s3) rfl ?_
        | simp only [go_sem, *])
    · have g1 : decide (((p / 18446744073709551616 : Nat) : Int) > 0) = true := decide_eq_true (by omega)
      clear h0
      generalize p / 18446744073709551616 = u at *
      generalize p % 18446744073709551616 = v at *
      repeat' (first
        | (with_reducible first | refine sA ?_ ?_ | refine sB ?_ ?_ | refine sC ?_ ?_ | refine sD ?_ ?_ | refine sE ?_ ?_ | refine sF ?_ ?_) <;> intro h
        | refine clK_mk (s1) rfl ?_
        | refine clK_mk (s2) rfl ?_
        | refine clK_mk (s3) rfl ?_
        | simp only [go_sem, *])
theorem sgcd_d (a b : Int) (ha : a.natAbs ≤ most) (hb : b.natAbs ≤ most) : DCall Tryz.prog 256 [i64 a, i64 b] (i64 (Int.gcd a b : Nat)) := by
  rw [most_eq] at ha hb
  have s1 := size_d a ⟨by omega, by omega⟩
  have s2 := size_d b ⟨by omega, by omega⟩
  refine dcall_mk orders Tryz.func256 rfl (by kernel_rfl) noMu (by kernel_rfl) rfl (fun hs => ?_)
  clear hs
  repeat' (first
    | (with_reducible first | refine sA ?_ ?_ | refine sB ?_ ?_ | refine sC ?_ ?_ | refine sD ?_ ?_ | refine sE ?_ ?_ | refine sF ?_ ?_) <;> intro h
    | refine clK_mk (s1) rfl ?_
    | refine clK_mk (s2) rfl ?_
    | simp only [go_sem, *])
  refine loop_mk (fun m s' => ∃ x y : Nat, m = y ∧ s'.sl 5 = .t (.int .u64 (x : Int)) ∧ s'.sl 6 = .t (.int .u64 (y : Int)) ∧ x ≤ 4611686018427387903 ∧ y ≤ 4611686018427387903 ∧ Nat.gcd x y = Int.gcd a b) b.natAbs ⟨a.natAbs, b.natAbs, rfl, rfl, rfl, ha, hb, rfl⟩ ?_
  rintro y s' ⟨x, _, rfl, h5, h6, hx, hy, hg⟩ hfr G hG
  clear hfr
  by_cases h0 : y = 0
  · subst h0
    rw [Nat.gcd_zero_right] at hg
    subst hg
    have g1 : decide (((0 : Nat) : Int) > 0) = false := rfl
    have g2 : IntKind.i64.wrap ((Int.gcd a b : Nat) : Int) = (Int.gcd a b : Nat) := wrap_i64 (by omega) (by omega)
    repeat' (first
      | (with_reducible first | refine sA ?_ ?_ | refine sB ?_ ?_ | refine sC ?_ ?_ | refine sD ?_ ?_ | refine sE ?_ ?_ | refine sF ?_ ?_) <;> intro h
      | simp only [go_sem, *])
  · have g1 : decide (((y : Nat) : Int) > 0) = true := decide_eq_true (by omega)
    have g2 : ((y : Nat) : Int) = 0 ↔ False := by simp; omega
    have g3 : (x : Int).tmod (y : Int) = ((x % y : Nat) : Int) := rfl
    have hlt : x % y < y := Nat.mod_lt _ (by omega)
    have hg2 : Nat.gcd y (x % y) = Int.gcd a b := by rw [← hg, Nat.gcd_comm x y, Nat.gcd_rec y x, Nat.gcd_comm]
    repeat' (first
      | (with_reducible first | refine sA ?_ ?_ | refine sB ?_ ?_ | refine sC ?_ ?_ | refine sD ?_ ?_ | refine sE ?_ ?_ | refine sF ?_ ?_) <;> intro h
      | simp only [go_sem, *])
    exact hG (x % y) _ hlt ⟨y, x % y, rfl, rfl, rfl, hy, by omega, hg2⟩
theorem ssmall_d (n d : Int) (hn : n.natAbs ≤ most) (hd : 0 < d) (hd2 : d.natAbs ≤ most) : DCall Tryz.prog 217 [i64 n, i64 d] (encQ (Rat.divInt n d)) := by
  have hg := sgcd_d n d hn hd2
  obtain ⟨e1, e2⟩ := divInt_num (a := n) hd
  have hgp : 0 < Int.gcd n d := Int.gcd_pos_of_ne_zero_right n (by omega)
  have b1 : (n.tdiv (Int.gcd n d)).natAbs ≤ n.natAbs := by rw [Int.natAbs_tdiv]; exact Nat.div_le_self _ _
  have b2 : (d.tdiv (Int.gcd n d)).natAbs ≤ d.natAbs := by rw [Int.natAbs_tdiv]; exact Nat.div_le_self _ _
  have hs : Whole.small (Rat.divInt n d) = true := by
    simp only [Whole.small, Bool.and_eq_true, decide_eq_true_eq]
    rw [e1]
    have : ((Rat.divInt n d).den : Int).natAbs = (Rat.divInt n d).den := Int.natAbs_natCast _
    rw [e2] at this
    omega
  unfold encQ
  rw [ratC_small hs, e1, e2]
  rw [most_eq] at hn hd2
  have g1 : IntKind.i64.wrap (n.tdiv (Int.gcd n d)) = n.tdiv (Int.gcd n d) := wrap_i64 (by omega) (by omega)
  have g2 : IntKind.i64.wrap (d.tdiv (Int.gcd n d)) = d.tdiv (Int.gcd n d) := wrap_i64 (by omega) (by omega)
  have g3 : ((Int.gcd n d : Nat) : Int) = 0 ↔ False := by simp; omega
  clear e1 e2 b1 b2 hs hn hd2 hd hgp
  refine dcall_mk orders Tryz.func217 rfl (by kernel_rfl) (fun d => d == 4) (by kernel_rfl) rfl (fun hs => ?_)
  clear hs
  repeat' (first
    | (with_reducible first | refine sA ?_ ?_ | refine sB ?_ ?_ | refine sC ?_ ?_ | refine sD ?_ ?_ | refine sE ?_ ?_ | refine sF ?_ ?_) <;> intro h
    | refine clK_mk (hg) rfl ?_
    | simp only [go_sem, *])
def qfits (q : Rat) : Prop := (digs q.num.natAbs).length ≤ 100000 ∧ (digs q.den).length ≤ 100000
theorem ratC_of {q : Rat} {A D : Int} (h1 : q.num = A) (h2 : (q.den : Int) = D) : ratC q = if A.natAbs ≤ most ∧ D.natAbs ≤ most then [i64 A, i64 D, .sl false [], .bool false, .sl false [], .bool false] else [i64 0, i64 0] ++ intC true A ++ intC true D := by
  subst h1
  have h3 : D.natAbs = q.den := by rw [← h2]; exact Int.natAbs_natCast _
  have h4 : decide (D < 0) = false := decide_eq_false (by omega)
  by_cases hs : Whole.small q = true
  · obtain ⟨a, b⟩ := small_true hs
    rw [ratC_small hs, if_pos ⟨a, by omega⟩, h2]
  · have hs' : Whole.small q = false := by simpa using hs
    rw [ratC_big hs', if_neg (fun h => hs (by simp only [Whole.small, Bool.and_eq_true, decide_eq_true_eq]; omega))]
    unfold intC
    rw [h3, h4]; rfl
theorem quo_d (a b : Int) (hb : b ≠ 0) (ha : fits a) (hbf : fits b) : DCall Tryz.prog 210 [encI true a, encI true b] (encQ (Rat.divInt a b)) := by
  have main : ∀ a' b' : Int, 0 < b' → fits a' → fits b' → Rat.divInt a b = Rat.divInt a' b' → (b' = b ∧ a' = a ∧ 0 < b ∨ b' = -b ∧ a' = -a ∧ b < 0) → DCall Tryz.prog 210 [encI true a, encI true b] (encQ (Rat.divInt a b)) := by
    intro a' b' hb' fa fb he hcase
    rw [he]
    obtain ⟨e1, e2⟩ := divInt_num (a := a') hb'
    have hgp : 0 < Int.gcd a' b' := Int.gcd_pos_of_ne_zero_right a' (by omega)
    have b1 : (a'.tdiv (Int.gcd a' b')).natAbs ≤ a'.natAbs := by rw [Int.natAbs_tdiv]; exact Nat.div_le_self _ _
    have b2 : (b'.tdiv (Int.gcd a' b')).natAbs ≤ b'.natAbs := by rw [Int.natAbs_tdiv]; exact Nat.div_le_self _ _
    have hgb : Int.gcd a' b' ≤ b'.natAbs := by show Nat.gcd _ _ ≤ _; exact Nat.gcd_le_right _ (by omega)
    have fg : fits (Int.gcd a' b' : Nat) := fits_mono (by omega) fb
    have w1 := gcd_d a' b' fa fb
    have w2 := div_d true true a' (Int.gcd a' b' : Nat) fa fg (by omega)
    have w3 := div_d true true b' (Int.gcd a' b' : Nat) fb fg (by omega)
    have w4 := wsmall_d true (a'.tdiv (Int.gcd a' b')) most (by decide)
    have w5 := wsmall_d true (b'.tdiv (Int.gcd a' b')) most (by decide)
    rw [show ((most : Nat) : Int) = 4611686018427387903 from rfl] at w4 w5
    unfold encQ
    rw [ratC_of e1 e2]
    clear e1 e2 b1 b2 hgb fg he fa fb ha hbf hgp
    generalize a'.tdiv (Int.gcd a' b') = A at *
    generalize b'.tdiv (Int.gcd a' b') = D at *
    generalize a'.tmod (Int.gcd a' b') = A2 at *
    generalize b'.tmod (Int.gcd a' b') = D2 at *
    generalize Int.gcd a' b' = g at *
    have n1 := neg_d true a
    have n2 := neg_d true b
    have sg := sign_d true b
    have hsg : b.sign = if b < 0 then -1 else 1 := by
      split
      · rename_i h; exact Int.sign_eq_neg_one_of_neg h
      · rename_i h; exact Int.sign_eq_one_of_pos (by omega)
    rw [hsg] at sg
    have hgoal : ∀ R : List Tr, (A.natAbs ≤ most ∧ D.natAbs ≤ most → R = [i64 A, i64 D, .sl false [], .bool false, .sl false [], .bool false]) → (¬ (A.natAbs ≤ most ∧ D.natAbs ≤ most) → R = [i64 0, i64 0] ++ intC true A ++ intC true D) → DCall Tryz.prog 210 [encI true a, encI true b] (.agg R) := by
      intro R hR1 hR2
      by_cases hA : A.natAbs ≤ most
      · rw [if_pos hA, decide_eq_true hA] at w4
        by_cases hD : D.natAbs ≤ most
        · rw [if_pos hD, decide_eq_true hD] at w5
          rw [hR1 ⟨hA, hD⟩]
          clear hR1 hR2 hA hD
          rcases hcase with ⟨rfl, rfl, hb0⟩ | ⟨rfl, rfl, hb0⟩
          · rw [if_neg (by omega)] at sg
            clear hb0 hb' hsg hb
            refine dcall_mk orders Tryz.func210 rfl (by kernel_rfl) (fun d => d == 2 || d == 3 || d == 4 || d == 5) (by kernel_rfl) rfl (fun hs => ?_)
            repeat' (first
              | (with_reducible first | refine sA ?_ ?_ | refine sB ?_ ?_ | refine sC ?_ ?_ | refine sD ?_ ?_ | refine sE ?_ ?_ | refine sF ?_ ?_) <;> intro h
              | refine clK_mk (sg) rfl ?_
              | refine clK_mk (w1) rfl ?_
              | refine clK_mk (w2) rfl ?_
              | refine clK_mk (w3) rfl ?_
              | refine clK_mk (w4) rfl ?_
              | refine clK_mk (w5) rfl ?_
              | simp only [go_sem, *])
          · rw [if_pos hb0] at sg
            clear hb0 hb' hsg hb
            refine dcall_mk orders Tryz.func210 rfl (by kernel_rfl) (fun d => d == 2 || d == 3 || d == 4 || d == 5) (by kernel_rfl) rfl (fun hs => ?_)
            repeat' (first
              | (with_reducible first | refine sA ?_ ?_ | refine sB ?_ ?_ | refine sC ?_ ?_ | refine sD ?_ ?_ | refine sE ?_ ?_ | refine sF ?_ ?_) <;> intro h
              | refine clK_mk (sg) rfl ?_
              | refine clK_mk (n1) rfl ?_
              | refine clK_mk (n2) rfl ?_
              | refine clK_mk (w1) rfl ?_
              | refine clK_mk (w2) rfl ?_
              | refine clK_mk (w3) rfl ?_
              | refine clK_mk (w4) rfl ?_
              | refine clK_mk (w5) rfl ?_
              | simp only [go_sem, *])
        · rw [if_neg hD, decide_eq_false hD] at w5
          rw [hR2 (fun h => hD h.2)]
          clear hR1 hR2 hA hD
          rcases hcase with ⟨rfl, rfl, hb0⟩ | ⟨rfl, rfl, hb0⟩
          · rw [if_neg (by omega)] at sg
            clear hb0 hb' hsg hb
            refine dcall_mk orders Tryz.func210 rfl (by kernel_rfl) (fun d => d == 2 || d == 3 || d == 4 || d == 5) (by kernel_rfl) rfl (fun hs => ?_)
            repeat' (first
              | (with_reducible first | refine sA ?_ ?_ | refine sB ?_ ?_ | refine sC ?_ ?_ | refine sD ?_ ?_ | refine sE ?_ ?_ | refine sF ?_ ?_) <;> intro h
              | refine clK_mk (sg) rfl ?_
              | refine clK_mk (w1) rfl ?_
              | refine clK_mk (w2) rfl ?_
              | refine clK_mk (w3) rfl ?_
              | refine clK_mk (w4) rfl ?_
              | refine clK_mk (w5) rfl ?_
              | simp only [go_sem, *])
          · rw [if_pos hb0] at sg
            clear hb0 hb' hsg hb
            refine dcall_mk orders Tryz.func210 rfl (by kernel_rfl) (fun d => d == 2 || d == 3 || d == 4 || d == 5) (by kernel_rfl) rfl (fun hs => ?_)
            repeat' (first
              | (with_reducible first | refine sA ?_ ?_ | refine sB ?_ ?_ | refine sC ?_ ?_ | refine sD ?_ ?_ | refine sE ?_ ?_ | refine sF ?_ ?_) <;> intro h
              | refine clK_mk (sg) rfl ?_
              | refine clK_mk (n1) rfl ?_
              | refine clK_mk (n2) rfl ?_
              | refine clK_mk (w1) rfl ?_
              | refine clK_mk (w2) rfl ?_
              | refine clK_mk (w3) rfl ?_
              | refine clK_mk (w4) rfl ?_
              | refine clK_mk (w5) rfl ?_
              | simp only [go_sem, *])
      · rw [if_neg hA, decide_eq_false hA] at w4
        rw [hR2 (fun h => hA h.1)]
        generalize hq : (if D.natAbs ≤ most then D else 0) = q5 at *
        generalize hq2 : decide (D.natAbs ≤ most) = b5 at *
        clear hR1 hR2 hA hq hq2
        rcases hcase with ⟨rfl, rfl, hb0⟩ | ⟨rfl, rfl, hb0⟩
        · rw [if_neg (by omega)] at sg
          clear hb0 hb' hsg hb
          refine dcall_mk orders Tryz.func210 rfl (by kernel_rfl) (fun d => d == 2 || d == 3 || d == 4 || d == 5) (by kernel_rfl) rfl (fun hs => ?_)
          repeat' (first
            | (with_reducible first | refine sA ?_ ?_ | refine sB ?_ ?_ | refine sC ?_ ?_ | refine sD ?_ ?_ | refine sE ?_ ?_ | refine sF ?_ ?_) <;> intro h
            | refine clK_mk (sg) rfl ?_
            | refine clK_mk (w1) rfl ?_
            | refine clK_mk (w2) rfl ?_
            | refine clK_mk (w3) rfl ?_
            | refine clK_mk (w4) rfl ?_
            | refine clK_mk (w5) rfl ?_
            | simp only [go_sem, *])
        · rw [if_pos hb0] at sg
          clear hb0 hb' hsg hb
          refine dcall_mk orders Tryz.func210 rfl (by kernel_rfl) (fun d => d == 2 || d == 3 || d == 4 || d == 5) (by kernel_rfl) rfl (fun hs => ?_)
          repeat' (first
            | (with_reducible first | refine sA ?_ ?_ | refine sB ?_ ?_ | refine sC ?_ ?_ | refine sD ?_ ?_ | refine sE ?_ ?_ | refine sF ?_ ?_) <;> intro h
            | refine clK_mk (sg) rfl ?_
            | refine clK_mk (n1) rfl ?_
            | refine clK_mk (n2) rfl ?_
            | refine clK_mk (w1) rfl ?_
            | refine clK_mk (w2) rfl ?_
            | refine clK_mk (w3) rfl ?_
            | refine clK_mk (w4) rfl ?_
            | refine clK_mk (w5) rfl ?_
            | simp only [go_sem, *])
    exact hgoal _ (fun h => if_pos h) (fun h => if_neg h)
  rcases Int.lt_or_lt_of_ne hb with h | h
  · exact main (-a) (-b) (by omega) (fits_mono (by omega) ha) (fits_mono (by omega) hbf) (Rat.neg_divInt_neg a b).symm (.inr ⟨rfl, rfl, h⟩)
  · exact main a b h ha hbf rfl (.inl ⟨rfl, rfl, h⟩)
end YtihgdplbehempaaGreat
end Go.Vm
end
section
set_option linter.unusedSimpArgs false
set_option maxRecDepth 10000
namespace Go.Vm
open Go Go.Proofs Go.Whole
namespace YtihgdplbehempaaGreat
open Go.Proofs.Tryz
theorem len_mul {a b m n : Nat} (ha : (digs a).length ≤ m) (hb : (digs b).length ≤ n) : (digs (a * b)).length ≤ m + n := digs_length_le (by
  have h1 := lt_of_digs_length ha
  have h2 := lt_of_digs_length hb
  rw [Nat.pow_add]
  exact Nat.mul_lt_mul'' h1 h2)
theorem len_add {a b n : Nat} (ha : (digs a).length ≤ n) (hb : (digs b).length ≤ n) : (digs (a + b)).length ≤ n + 1 := by
  rcases Nat.le_total a b with h | h
  · exact digs_dbl (by omega) hb
  · exact digs_dbl (b := a) (by omega) ha
theorem fits_i64 {z : Int} (h : inI64 z) : fits z := Nat.le_trans (digs_length_le (k := 2) (by rw [show B ^ 2 = 18446744073709551616 by decide]; obtain ⟨h1, h2⟩ := h; omega)) (by decide)
@[go_sem] theorem dec_zero : decide ((0 : Int) > 0) = false := by decide
attribute [go_sem] List.append_nil
theorem ratC_one (q : Rat) : ((ratC q).map PV.t).all PV.one = true := by unfold ratC; split <;> rfl
@[go_sem] theorem ratC_len (q : Rat) : (ratC q).length = 6 := ratC_length q
@[go_sem] theorem ratC_all (q : Rat) : ((ratC q).map PV.t).all PV.one = true := ratC_one q
@[go_sem] theorem ratC_take (q : Rat) : ((ratC q).map PV.t).take 6 = (ratC q).map PV.t := List.take_of_length_le (by simp [ratC_length])
@[go_sem] theorem ratC_take' (q : Rat) : (ratC q).take 6 = ratC q := List.take_of_length_le (by simp [ratC_length])
attribute [go_sem] encQ
theorem divInt_one (n : Int) : Rat.divInt n 1 = (n : Rat) := by
  have := Rat.divInt_ofNat n 1
  rw [show ((1 : Nat) : Int) = 1 from rfl] at this
  rw [this]
  exact Rat.ext (by rw [Rat.num_mkRat]; simp) (by rw [Rat.den_mkRat]; simp)
theorem whole_d (n : Int) (h : inI64 n) : DCall Tryz.prog 140 [i64 n] (encQ n) := by
  have h1 := of_d n h
  have h2 := of_d 1 ⟨by decide, by decide⟩
  have h3 := quo_d n 1 (by decide) (fits_i64 h) (fits_i64 ⟨by decide, by decide⟩)
  rw [divInt_one] at h3
  refine dcall_mk orders Tryz.func140 rfl (by kernel_rfl) (fun d => d == 2) (by kernel_rfl) rfl (fun hs => ?_)
  clear hs
  repeat' (first
    | (with_reducible first | refine sA ?_ ?_ | refine sB ?_ ?_ | refine sC ?_ ?_ | refine sD ?_ ?_ | refine sE ?_ ?_ | refine sF ?_ ?_) <;> intro h
    | refine clK_mk (h1) rfl ?_
    | refine clK_mk (h2) rfl ?_
    | refine clK_mk (h3) rfl ?_
    | simp only [go_sem, *])
theorem num_d (q : Rat) : DCall Tryz.prog 147 [encQ q] (encI true q.num) := by
  unfold encQ
  by_cases hs : Whole.small q = true
  · obtain ⟨h1, h2⟩ := small_true hs
    rw [most_eq] at h1
    have o := of_d q.num ⟨by omega, by omega⟩
    have hp := q.den_pos
    have g : decide ((q.den : Int) > 0) = true := decide_eq_true (by omega)
    rw [ratC_small hs]
    refine dcall_mk orders Tryz.func147 rfl (by kernel_rfl) (fun d => d == 2) (by kernel_rfl) rfl (fun hs => ?_)
    clear hs h1 h2
    repeat' (first
      | (with_reducible first | refine sA ?_ ?_ | refine sB ?_ ?_ | refine sC ?_ ?_ | refine sD ?_ ?_ | refine sE ?_ ?_ | refine sF ?_ ?_) <;> intro h
      | refine clK_mk (o) rfl ?_
      | simp only [go_sem, *])
  · rw [ratC_big (by simpa using hs)]
    refine dcall_mk orders Tryz.func147 rfl (by kernel_rfl) (fun d => d == 2) (by kernel_rfl) rfl (fun hs => ?_)
    clear hs
    repeat' (first
      | (with_reducible first | refine sA ?_ ?_ | refine sB ?_ ?_ | refine sC ?_ ?_ | refine sD ?_ ?_ | refine sE ?_ ?_ | refine sF ?_ ?_) <;> intro h
      | simp only [go_sem, *])
theorem den_d (q : Rat) : DCall Tryz.prog 148 [encQ q] (encI true (q.den : Int)) := by
  unfold encQ
  by_cases hs : Whole.small q = true
  · obtain ⟨h1, h2⟩ := small_true hs
    rw [most_eq] at h2
    have o := of_d (q.den : Int) ⟨by omega, by omega⟩
    have hp := q.den_pos
    have g : decide ((q.den : Int) > 0) = true := decide_eq_true (by omega)
    rw [ratC_small hs]
    refine dcall_mk orders Tryz.func148 rfl (by kernel_rfl) (fun d => d == 2) (by kernel_rfl) rfl (fun hs => ?_)
    clear hs h1 h2
    repeat' (first
      | (with_reducible first | refine sA ?_ ?_ | refine sB ?_ ?_ | refine sC ?_ ?_ | refine sD ?_ ?_ | refine sE ?_ ?_ | refine sF ?_ ?_) <;> intro h
      | refine clK_mk (o) rfl ?_
      | simp only [go_sem, *])
  · rw [ratC_big (by simpa using hs)]
    have e1 : ((q.den : Int)).natAbs = q.den := Int.natAbs_natCast _
    have e2 : decide ((q.den : Int) < 0) = false := decide_eq_false (by omega)
    refine dcall_mk orders Tryz.func148 rfl (by kernel_rfl) (fun d => d == 2) (by kernel_rfl) rfl (fun hs => ?_)
    clear hs
    repeat' (first
      | (with_reducible first | refine sA ?_ ?_ | refine sB ?_ ?_ | refine sC ?_ ?_ | refine sD ?_ ?_ | refine sE ?_ ?_ | refine sF ?_ ?_) <;> intro h
      | simp only [go_sem, *])
theorem qsign_d (q : Rat) : DCall Tryz.prog 80 [encQ q] (i64 q.num.sign) := by
  unfold encQ
  by_cases hs : Whole.small q = true
  · have hp := q.den_pos
    have g : ((q.den : Int) == 0) = false := by simp; omega
    rw [ratC_small hs]
    clear hs
    rcases Int.lt_trichotomy q.num 0 with h | h | h
    · rw [Int.sign_eq_neg_one_of_neg h]
      have g1 : decide (q.num < 0) = true := decide_eq_true h
      clear h
      refine dcall_mk orders Tryz.func80 rfl (by kernel_rfl) noMu (by kernel_rfl) rfl (fun hs => ?_)
      repeat' (first
        | (with_reducible first | refine sA ?_ ?_ | refine sB ?_ ?_ | refine sC ?_ ?_ | refine sD ?_ ?_ | refine sE ?_ ?_ | refine sF ?_ ?_) <;> intro h
        | simp only [go_sem, *])
    · rw [h]
      refine dcall_mk orders Tryz.func80 rfl (by kernel_rfl) noMu (by kernel_rfl) rfl (fun hs => ?_)
      have g1 : decide ((0 : Int) < 0) = false := rfl
      have g2 : decide ((0 : Int) > 0) = false := rfl
      repeat' (first
        | (with_reducible first | refine sA ?_ ?_ | refine sB ?_ ?_ | refine sC ?_ ?_ | refine sD ?_ ?_ | refine sE ?_ ?_ | refine sF ?_ ?_) <;> intro h
        | simp only [go_sem, *])
      all_goals rfl
    · rw [Int.sign_eq_one_of_pos h]
      have g1 : decide (q.num < 0) = false := decide_eq_false (by omega)
      have g2 : decide (q.num > 0) = true := decide_eq_true h
      clear h
      refine dcall_mk orders Tryz.func80 rfl (by kernel_rfl) noMu (by kernel_rfl) rfl (fun hs => ?_)
      repeat' (first
        | (with_reducible first | refine sA ?_ ?_ | refine sB ?_ ?_ | refine sC ?_ ?_ | refine sD ?_ ?_ | refine sE ?_ ?_ | refine sF ?_ ?_) <;> intro h
        | simp only [go_sem, *])
  · rw [ratC_big (by simpa using hs)]
    have sg := sign_d true q.num
    refine dcall_mk orders Tryz.func80 rfl (by kernel_rfl) noMu (by kernel_rfl) rfl (fun hs => ?_)
    clear hs
    repeat' (first
      | (with_reducible first | refine sA ?_ ?_ | refine sB ?_ ?_ | refine sC ?_ ?_ | refine sD ?_ ?_ | refine sE ?_ ?_ | refine sF ?_ ?_) <;> intro h
      | refine clK_mk (sg) rfl ?_
      | simp only [go_sem, *])
theorem qneg_d (q : Rat) : DCall Tryz.prog 142 [encQ q] (encQ (-q)) := by
  unfold encQ
  have e1 : (-q).num = -q.num := Rat.neg_num q
  have e2 : (-q).den = q.den := Rat.neg_den q
  have e3 : (-q.num).natAbs = q.num.natAbs := by omega
  have hsm : Whole.small (-q) = Whole.small q := by simp only [Whole.small, e1, e2, e3]
  by_cases hs : Whole.small q = true
  · obtain ⟨h1, h2⟩ := small_true hs
    rw [most_eq] at h1
    have hp := q.den_pos
    have g : decide ((q.den : Int) > 0) = true := decide_eq_true (by omega)
    have g2 : IntKind.i64.wrap (0 - q.num) = -q.num := by rw [show 0 - q.num = -q.num by omega]; exact wrap_i64 (by omega) (by omega)
    rw [ratC_small hs, ratC_small (hsm.trans hs), e1, e2]
    clear hs hsm h1 h2 e1 e2 e3 hp
    refine dcall_mk orders Tryz.func142 rfl (by kernel_rfl) (fun d => d == 2) (by kernel_rfl) rfl (fun hs => ?_)
    repeat' (first
      | (with_reducible first | refine sA ?_ ?_ | refine sB ?_ ?_ | refine sC ?_ ?_ | refine sD ?_ ?_ | refine sE ?_ ?_ | refine sF ?_ ?_) <;> intro h
      | simp only [go_sem, *])
  · have hs' : Whole.small q = false := by simpa using hs
    have n1 := neg_d true q.num
    rw [ratC_big hs', ratC_big (hsm.trans hs'), e1, e2]
    clear hs hsm hs' e1 e2
    refine dcall_mk orders Tryz.func142 rfl (by kernel_rfl) (fun d => d == 2) (by kernel_rfl) rfl (fun hs => ?_)
    repeat' (first
      | (with_reducible first | refine sA ?_ ?_ | refine sB ?_ ?_ | refine sC ?_ ?_ | refine sD ?_ ?_ | refine sE ?_ ?_ | refine sF ?_ ?_) <;> intro h
      | refine clK_mk (n1) rfl ?_
      | simp only [go_sem, *])
theorem add_eq (p q : Rat) : p + q = Rat.divInt (p.num * q.den + q.num * p.den) ((p.den : Int) * q.den) := by
  rw [Rat.add_def', ← Rat.divInt_ofNat, Int.natCast_mul]
theorem mul_eq (p q : Rat) : p * q = Rat.divInt (p.num * q.num) ((p.den : Int) * q.den) := by
  rw [Rat.mul_def', ← Rat.divInt_ofNat, Int.natCast_mul]
structure Slow (p q : Rat) : Prop where
  m1 : fits (p.num * q.den)
  m2 : fits (q.num * p.den)
  m3 : fits ((p.den : Int) * q.den)
  s : fits (p.num * q.den + q.num * p.den)
  np : fits p.num
  nq : fits q.num
  dp : fits (p.den : Int)
  dq : fits (q.den : Int)
  m4 : fits (p.num * q.num)
theorem slow {p q : Rat} (hp : qfits p) (hq : qfits q) : Slow p q := by
  obtain ⟨h1, h2⟩ := hp
  obtain ⟨h3, h4⟩ := hq
  have a1 := len_mul h1 h4
  have a2 := len_mul h3 h2
  have a3 := len_mul h2 h4
  have a4 := len_mul h1 h3
  have e1 : (p.num * q.den).natAbs = p.num.natAbs * q.den := by rw [Int.natAbs_mul, Int.natAbs_natCast]
  have e2 : (q.num * p.den).natAbs = q.num.natAbs * p.den := by rw [Int.natAbs_mul, Int.natAbs_natCast]
  have e3 : ((p.den : Int) * q.den).natAbs = p.den * q.den := by rw [Int.natAbs_mul, Int.natAbs_natCast, Int.natAbs_natCast]
  have e4 : (p.num * q.num).natAbs = p.num.natAbs * q.num.natAbs := Int.natAbs_mul _ _
  have a5 := len_add a1 a2
  refine ⟨?_, ?_, ?_, ?_, Nat.le_trans h1 (by decide), Nat.le_trans h3 (by decide), ?_, ?_, ?_⟩
  · unfold fits; rw [e1]; omega
  · unfold fits; rw [e2]; omega
  · unfold fits; rw [e3]; omega
  · unfold fits
    have := digs_length_mono (a := (p.num * q.den + q.num * p.den).natAbs) (b := p.num.natAbs * q.den + q.num.natAbs * p.den) (by rw [← e1, ← e2]; omega)
    omega
  · unfold fits; rw [Int.natAbs_natCast]; omega
  · unfold fits; rw [Int.natAbs_natCast]; omega
  · unfold fits; rw [e4]; omega
theorem dens_ne (p q : Rat) : (p.den : Int) * q.den ≠ 0 := by
  have h1 := p.den_pos
  have h2 := q.den_pos
  have := Nat.mul_pos h1 h2
  rw [← Int.natCast_mul]; omega
theorem qadd_d (p q : Rat) (hp : qfits p) (hq : qfits q) : DCall Tryz.prog 211 [encQ p, encQ q] (encQ (p + q)) := by
  have sl := slow hp hq
  have n1 := num_d p
  have n2 := num_d q
  have d1 := den_d p
  have d2 := den_d q
  have m1 := mul_d true true p.num (q.den : Int) sl.np sl.dq
  have m2 := mul_d true true q.num (p.den : Int) sl.nq sl.dp
  have m3 := mul_d true true (p.den : Int) (q.den : Int) sl.dp sl.dq
  have ad := add_d true true _ _ sl.m1 sl.m2
  have qu := quo_d _ _ (dens_ne p q) sl.s sl.m3
  rw [← add_eq] at qu
  have pp := p.den_pos
  have pq := q.den_pos
  have g1 : decide ((p.den : Int) > 0) = true := decide_eq_true (by omega)
  have g2 : decide ((q.den : Int) > 0) = true := decide_eq_true (by omega)
  -- the ways
  by_cases hsp : Whole.small p = true
  · obtain ⟨a1, a2⟩ := small_true hsp
    by_cases hsq : Whole.small q = true
    · obtain ⟨b1, b2⟩ := small_true hsq
      have t1 := times_d p.num (q.den : Int) a1 (by rw [Int.natAbs_natCast]; exact b2)
      have t2 := times_d q.num (p.den : Int) b1 (by rw [Int.natAbs_natCast]; exact a2)
      have t3 := times_d (p.den : Int) (q.den : Int) (by rw [Int.natAbs_natCast]; exact a2) (by rw [Int.natAbs_natCast]; exact b2)
      have sm : (p.num * q.den + q.num * p.den).natAbs ≤ most → ((p.den : Int) * q.den).natAbs ≤ most → DCall Tryz.prog 217 [i64 (p.num * q.den + q.num * p.den), i64 ((p.den : Int) * q.den)] (encQ (p + q)) := fun h1 h2 => by
        rw [add_eq]; exact ssmall_d _ _ h1 (by have := Nat.mul_pos pp pq; rw [← Int.natCast_mul]; omega) h2
      rw [← Int.natAbs_mul] at t1 t2 t3
      unfold encQ at n1 n2 d1 d2
      rw [ratC_small hsp] at n1 d1
      rw [ratC_small hsq] at n2 d2
      have hgoal : ∀ R : Tr, R = encQ (p + q) → DCall Tryz.prog 211 [.agg [.int .i64 p.num, .int .i64 p.den, .sl false [], .bool false, .sl false [], .bool false], .agg [.int .i64 q.num, .int .i64 q.den, .sl false [], .bool false, .sl false [], .bool false]] R := by
        intro R hR
        subst hR
        clear hsp hsq a1 a2 b1 b2 hp hq sl pp pq
        generalize p.num * (q.den : Int) = x at *
        generalize q.num * (p.den : Int) = y at *
        generalize (p.den : Int) * (q.den : Int) = z at *
        by_cases cx : x.natAbs ≤ most
        · rw [if_pos cx, decide_eq_true cx] at t1
          by_cases cy : y.natAbs ≤ most
          · rw [if_pos cy, decide_eq_true cy] at t2
            have w : IntKind.i64.wrap (x + y) = x + y := wrap_i64 (by rw [most_eq] at cx cy; omega) (by rw [most_eq] at cx cy; omega)
            by_cases cz : z.natAbs ≤ most
            · rw [if_pos cz, decide_eq_true cz] at t3
              by_cases cl : x + y ≥ -4611686018427387903
              · have v1 : decide (x + y ≥ -4611686018427387903) = true := decide_eq_true cl
                by_cases ch : x + y ≤ 4611686018427387903
                · have v2 : decide (x + y ≤ 4611686018427387903) = true := decide_eq_true ch
                  have sm' := sm (by rw [most_eq]; omega) cz
                  clear sm cx cy cz cl ch
                  refine dcall_mk orders Tryz.func211 rfl (by kernel_rfl) (fun d => d == 4) (by kernel_rfl) rfl (fun hs => ?_)
                  repeat' (first
                    | (with_reducible first | refine sA ?_ ?_ | refine sB ?_ ?_ | refine sC ?_ ?_ | refine sD ?_ ?_ | refine sE ?_ ?_ | refine sF ?_ ?_) <;> intro h
                    | refine clK_mk (t1) rfl ?_
                    | refine clK_mk (t2) rfl ?_
                    | refine clK_mk (t3) rfl ?_
                    | refine clK_mk (sm') rfl ?_
                    | simp only [go_sem, *])
                · have v2 : decide (x + y ≤ 4611686018427387903) = false := decide_eq_false ch
                  clear sm cx cy cz cl ch
                  refine dcall_mk orders Tryz.func211 rfl (by kernel_rfl) (fun d => d == 4) (by kernel_rfl) rfl (fun hs => ?_)
                  repeat' (first
                    | (with_reducible first | refine sA ?_ ?_ | refine sB ?_ ?_ | refine sC ?_ ?_ | refine sD ?_ ?_ | refine sE ?_ ?_ | refine sF ?_ ?_) <;> intro h
                    | refine clK_mk (t1) rfl ?_
                    | refine clK_mk (t2) rfl ?_
                    | refine clK_mk (t3) rfl ?_
                    | refine clK_mk (n1) rfl ?_
                    | refine clK_mk (n2) rfl ?_
                    | refine clK_mk (d1) rfl ?_
                    | refine clK_mk (d2) rfl ?_
                    | refine clK_mk (m1) rfl ?_
                    | refine clK_mk (m2) rfl ?_
                    | refine clK_mk (m3) rfl ?_
                    | refine clK_mk (ad) rfl ?_
                    | refine clK_mk (qu) rfl ?_
                    | simp only [go_sem, *])
              · have v1 : decide (x + y ≥ -4611686018427387903) = false := decide_eq_false cl
                clear sm cx cy cz cl
                refine dcall_mk orders Tryz.func211 rfl (by kernel_rfl) (fun d => d == 4) (by kernel_rfl) rfl (fun hs => ?_)
                repeat' (first
                  | (with_reducible first | refine sA ?_ ?_ | refine sB ?_ ?_ | refine sC ?_ ?_ | refine sD ?_ ?_ | refine sE ?_ ?_ | refine sF ?_ ?_) <;> intro h
                  | refine clK_mk (t1) rfl ?_
                  | refine clK_mk (t2) rfl ?_
                  | refine clK_mk (t3) rfl ?_
                  | refine clK_mk (n1) rfl ?_
                  | refine clK_mk (n2) rfl ?_
                  | refine clK_mk (d1) rfl ?_
                  | refine clK_mk (d2) rfl ?_
                  | refine clK_mk (m1) rfl ?_
                  | refine clK_mk (m2) rfl ?_
                  | refine clK_mk (m3) rfl ?_
                  | refine clK_mk (ad) rfl ?_
                  | refine clK_mk (qu) rfl ?_
                  | simp only [go_sem, *])
            · rw [if_neg cz, decide_eq_false cz] at t3
              clear sm cx cy cz
              refine dcall_mk orders Tryz.func211 rfl (by kernel_rfl) (fun d => d == 4) (by kernel_rfl) rfl (fun hs => ?_)
              repeat' (first
                | (with_reducible first | refine sA ?_ ?_ | refine sB ?_ ?_ | refine sC ?_ ?_ | refine sD ?_ ?_ | refine sE ?_ ?_ | refine sF ?_ ?_) <;> intro h
                | refine clK_mk (t1) rfl ?_
                | refine clK_mk (t2) rfl ?_
                | refine clK_mk (t3) rfl ?_
                | refine clK_mk (n1) rfl ?_
                | refine clK_mk (n2) rfl ?_
                | refine clK_mk (d1) rfl ?_
                | refine clK_mk (d2) rfl ?_
                | refine clK_mk (m1) rfl ?_
                | refine clK_mk (m2) rfl ?_
                | refine clK_mk (m3) rfl ?_
                | refine clK_mk (ad) rfl ?_
                | refine clK_mk (qu) rfl ?_
                | simp only [go_sem, *])
          · rw [if_neg cy, decide_eq_false cy] at t2
            clear sm cx cy
            generalize (if z.natAbs ≤ most then z else 0) = z1 at *
            generalize decide (z.natAbs ≤ most) = z2 at *
            refine dcall_mk orders Tryz.func211 rfl (by kernel_rfl) (fun d => d == 4) (by kernel_rfl) rfl (fun hs => ?_)
            repeat' (first
              | (with_reducible first | refine sA ?_ ?_ | refine sB ?_ ?_ | refine sC ?_ ?_ | refine sD ?_ ?_ | refine sE ?_ ?_ | refine sF ?_ ?_) <;> intro h
              | refine clK_mk (t1) rfl ?_
              | refine clK_mk (t2) rfl ?_
              | refine clK_mk (t3) rfl ?_
              | refine clK_mk (n1) rfl ?_
              | refine clK_mk (n2) rfl ?_
              | refine clK_mk (d1) rfl ?_
              | refine clK_mk (d2) rfl ?_
              | refine clK_mk (m1) rfl ?_
              | refine clK_mk (m2) rfl ?_
              | refine clK_mk (m3) rfl ?_
              | refine clK_mk (ad) rfl ?_
              | refine clK_mk (qu) rfl ?_
              | simp only [go_sem, *])
        · rw [if_neg cx, decide_eq_false cx] at t1
          clear sm cx
          generalize (if z.natAbs ≤ most then z else 0) = z1 at *
          generalize decide (z.natAbs ≤ most) = z2 at *
          generalize (if y.natAbs ≤ most then y else 0) = y1 at *
          generalize decide (y.natAbs ≤ most) = y2 at *
          refine dcall_mk orders Tryz.func211 rfl (by kernel_rfl) (fun d => d == 4) (by kernel_rfl) rfl (fun hs => ?_)
          repeat' (first
            | (with_reducible first | refine sA ?_ ?_ | refine sB ?_ ?_ | refine sC ?_ ?_ | refine sD ?_ ?_ | refine sE ?_ ?_ | refine sF ?_ ?_) <;> intro h
            | refine clK_mk (t1) rfl ?_
            | refine clK_mk (t2) rfl ?_
            | refine clK_mk (t3) rfl ?_
            | refine clK_mk (n1) rfl ?_
            | refine clK_mk (n2) rfl ?_
            | refine clK_mk (d1) rfl ?_
            | refine clK_mk (d2) rfl ?_
            | refine clK_mk (m1) rfl ?_
            | refine clK_mk (m2) rfl ?_
            | refine clK_mk (m3) rfl ?_
            | refine clK_mk (ad) rfl ?_
            | refine clK_mk (qu) rfl ?_
            | simp only [go_sem, *])
      have := hgoal _ rfl
      unfold encQ at this ⊢
      rw [ratC_small hsp, ratC_small hsq]
      exact this
    · have hsq' : Whole.small q = false := by simpa using hsq
      unfold encQ at n1 n2 d1 d2 qu ⊢
      rw [ratC_small hsp] at n1 d1 ⊢
      rw [ratC_big hsq'] at n2 d2 ⊢
      clear hsp hsq hsq' a1 a2 hp hq sl pp pq
      generalize p.num * (q.den : Int) = x at *
      generalize q.num * (p.den : Int) = y at *
      generalize (p.den : Int) * (q.den : Int) = z at *
      clear g2
      refine dcall_mk orders Tryz.func211 rfl (by kernel_rfl) (fun d => d == 4) (by kernel_rfl) rfl (fun hs => ?_)
      repeat' (first
        | (with_reducible first | refine sA ?_ ?_ | refine sB ?_ ?_ | refine sC ?_ ?_ | refine sD ?_ ?_ | refine sE ?_ ?_ | refine sF ?_ ?_) <;> intro h
        | refine clK_mk (n1) rfl ?_
        | refine clK_mk (n2) rfl ?_
        | refine clK_mk (d1) rfl ?_
        | refine clK_mk (d2) rfl ?_
        | refine clK_mk (m1) rfl ?_
        | refine clK_mk (m2) rfl ?_
        | refine clK_mk (m3) rfl ?_
        | refine clK_mk (ad) rfl ?_
        | refine clK_mk (qu) rfl ?_
        | simp only [go_sem, *])
  · have hsp' : Whole.small p = false := by simpa using hsp
    unfold encQ at n1 n2 d1 d2 qu ⊢
    rw [ratC_big hsp'] at n1 d1 ⊢
    clear hsp hsp' hp hq sl pp pq
    generalize p.num * (q.den : Int) = x at *
    generalize q.num * (p.den : Int) = y at *
    generalize (p.den : Int) * (q.den : Int) = z at *
    clear g1 g2
    refine dcall_mk orders Tryz.func211 rfl (by kernel_rfl) (fun d => d == 4) (by kernel_rfl) rfl (fun hs => ?_)
    repeat' (first
      | (with_reducible first | refine sA ?_ ?_ | refine sB ?_ ?_ | refine sC ?_ ?_ | refine sD ?_ ?_ | refine sE ?_ ?_ | refine sF ?_ ?_) <;> intro h
      | refine clK_mk (n1) rfl ?_
      | refine clK_mk (n2) rfl ?_
      | refine clK_mk (d1) rfl ?_
      | refine clK_mk (d2) rfl ?_
      | refine clK_mk (m1) rfl ?_
      | refine clK_mk (m2) rfl ?_
      | refine clK_mk (m3) rfl ?_
      | refine clK_mk (ad) rfl ?_
      | refine clK_mk (qu) rfl ?_
      | simp only [go_sem, *])
end YtihgdplbehempaaGreat
end Go.Vm
end
section
set_option linter.unusedSimpArgs false
set_option maxRecDepth 10000
namespace Go.Vm
open Go Go.Proofs Go.Whole
namespace YtihgdplbehempaaGreat
open Go.Proofs.Tryz
theorem qfits_neg {q : Rat} (h : qfits q) : qfits (-q) := by
  unfold qfits at *
  rw [Rat.neg_num, Rat.neg_den, Int.natAbs_neg]; exact h
theorem qsub_d (p q : Rat) (hp : qfits p) (hq : qfits q) : DCall Tryz.prog 141 [encQ p, encQ q] (encQ (p - q)) := by
  rw [Rat.sub_eq_add_neg]
  have n1 := qneg_d q
  have a1 := qadd_d p (-q) hp (qfits_neg hq)
  refine dcall_mk orders Tryz.func141 rfl (by kernel_rfl) (fun d => d == 4) (by kernel_rfl) rfl (fun hs => ?_)
  clear hs
  repeat' (first
    | (with_reducible first | refine sA ?_ ?_ | refine sB ?_ ?_ | refine sC ?_ ?_ | refine sD ?_ ?_ | refine sE ?_ ?_ | refine sF ?_ ?_) <;> intro h
    | refine clK_mk (n1) rfl ?_
    | refine clK_mk (a1) rfl ?_
    | simp only [go_sem, *])
theorem qcmp_d (p q : Rat) (hp : qfits p) (hq : qfits q) : DCall Tryz.prog 209 [encQ p, encQ q] (i64 (p - q).num.sign) := by
  have a1 := qsub_d p q hp hq
  have a2 := qsign_d (p - q)
  refine dcall_mk orders Tryz.func209 rfl (by kernel_rfl) noMu (by kernel_rfl) rfl (fun hs => ?_)
  clear hs
  repeat' (first
    | (with_reducible first | refine sA ?_ ?_ | refine sB ?_ ?_ | refine sC ?_ ?_ | refine sD ?_ ?_ | refine sE ?_ ?_ | refine sF ?_ ?_) <;> intro h
    | refine clK_mk (a1) rfl ?_
    | refine clK_mk (a2) rfl ?_
    | simp only [go_sem, *])
theorem qinv_d (q : Rat) (hq : qfits q) (h0 : q ≠ 0) : DCall Tryz.prog 146 [encQ q] (encQ q⁻¹) := by
  have n1 := num_d q
  have d1 := den_d q
  have hn : q.num ≠ 0 := fun h => h0 (Rat.num_eq_zero.1 h)
  have qu := quo_d (q.den : Int) q.num hn (by have := hq.2; unfold fits; rw [Int.natAbs_natCast]; omega) (Nat.le_trans hq.1 (by decide))
  rw [← Rat.inv_def] at qu
  refine dcall_mk orders Tryz.func146 rfl (by kernel_rfl) (fun d => d == 2) (by kernel_rfl) rfl (fun hs => ?_)
  clear hs hn h0
  repeat' (first
    | (with_reducible first | refine sA ?_ ?_ | refine sB ?_ ?_ | refine sC ?_ ?_ | refine sD ?_ ?_ | refine sE ?_ ?_ | refine sF ?_ ?_) <;> intro h
    | refine clK_mk (n1) rfl ?_
    | refine clK_mk (d1) rfl ?_
    | refine clK_mk (qu) rfl ?_
    | simp only [go_sem, *])
theorem qmul_d (p q : Rat) (hp : qfits p) (hq : qfits q) : DCall Tryz.prog 145 [encQ p, encQ q] (encQ (p * q)) := by
  have sl := slow hp hq
  have n1 := num_d p
  have n2 := num_d q
  have d1 := den_d p
  have d2 := den_d q
  have m1 := mul_d true true p.num q.num sl.np sl.nq
  have m3 := mul_d true true (p.den : Int) (q.den : Int) sl.dp sl.dq
  have qu := quo_d _ _ (dens_ne p q) sl.m4 sl.m3
  rw [← mul_eq] at qu
  have pp := p.den_pos
  have pq := q.den_pos
  have g1 : decide ((p.den : Int) > 0) = true := decide_eq_true (by omega)
  have g2 : decide ((q.den : Int) > 0) = true := decide_eq_true (by omega)
  by_cases hsp : Whole.small p = true
  · obtain ⟨a1, a2⟩ := small_true hsp
    by_cases hsq : Whole.small q = true
    · obtain ⟨b1, b2⟩ := small_true hsq
      have t1 := times_d p.num q.num a1 b1
      have t3 := times_d (p.den : Int) (q.den : Int) (by rw [Int.natAbs_natCast]; exact a2) (by rw [Int.natAbs_natCast]; exact b2)
      have sm : (p.num * q.num).natAbs ≤ most → ((p.den : Int) * q.den).natAbs ≤ most → DCall Tryz.prog 217 [i64 (p.num * q.num), i64 ((p.den : Int) * q.den)] (encQ (p * q)) := fun h1 h2 => by
        rw [mul_eq]; exact ssmall_d _ _ h1 (by have := Nat.mul_pos pp pq; rw [← Int.natCast_mul]; omega) h2
      rw [← Int.natAbs_mul] at t1 t3
      unfold encQ at n1 n2 d1 d2 qu sm ⊢
      rw [ratC_small hsp] at n1 d1 ⊢
      rw [ratC_small hsq] at n2 d2 ⊢
      clear hsp hsq a1 a2 b1 b2 hp hq sl pp pq
      generalize p.num * q.num = x at *
      generalize (p.den : Int) * (q.den : Int) = z at *
      by_cases cx : x.natAbs ≤ most
      · rw [if_pos cx, decide_eq_true cx] at t1
        by_cases cz : z.natAbs ≤ most
        · rw [if_pos cz, decide_eq_true cz] at t3
          have sm' := sm cx cz
          clear sm cx cz
          refine dcall_mk orders Tryz.func145 rfl (by kernel_rfl) (fun d => d == 4) (by kernel_rfl) rfl (fun hs => ?_)
          repeat' (first
            | (with_reducible first | refine sA ?_ ?_ | refine sB ?_ ?_ | refine sC ?_ ?_ | refine sD ?_ ?_ | refine sE ?_ ?_ | refine sF ?_ ?_) <;> intro h
            | refine clK_mk (t1) rfl ?_
            | refine clK_mk (t3) rfl ?_
            | refine clK_mk (sm') rfl ?_
            | simp only [go_sem, *])
        · rw [if_neg cz, decide_eq_false cz] at t3
          clear sm cx cz
          refine dcall_mk orders Tryz.func145 rfl (by kernel_rfl) (fun d => d == 4) (by kernel_rfl) rfl (fun hs => ?_)
          repeat' (first
            | (with_reducible first | refine sA ?_ ?_ | refine sB ?_ ?_ | refine sC ?_ ?_ | refine sD ?_ ?_ | refine sE ?_ ?_ | refine sF ?_ ?_) <;> intro h
            | refine clK_mk (t1) rfl ?_
            | refine clK_mk (t3) rfl ?_
            | refine clK_mk (n1) rfl ?_
            | refine clK_mk (n2) rfl ?_
            | refine clK_mk (d1) rfl ?_
            | refine clK_mk (d2) rfl ?_
            | refine clK_mk (m1) rfl ?_
            | refine clK_mk (m3) rfl ?_
            | refine clK_mk (qu) rfl ?_
            | simp only [go_sem, *])
      · rw [if_neg cx, decide_eq_false cx] at t1
        clear sm cx
        generalize (if z.natAbs ≤ most then z else 0) = z1 at *
        generalize decide (z.natAbs ≤ most) = z2 at *
        refine dcall_mk orders Tryz.func145 rfl (by kernel_rfl) (fun d => d == 4) (by kernel_rfl) rfl (fun hs => ?_)
        repeat' (first
          | (with_reducible first | refine sA ?_ ?_ | refine sB ?_ ?_ | refine sC ?_ ?_ | refine sD ?_ ?_ | refine sE ?_ ?_ | refine sF ?_ ?_) <;> intro h
          | refine clK_mk (t1) rfl ?_
          | refine clK_mk (t3) rfl ?_
          | refine clK_mk (n1) rfl ?_
          | refine clK_mk (n2) rfl ?_
          | refine clK_mk (d1) rfl ?_
          | refine clK_mk (d2) rfl ?_
          | refine clK_mk (m1) rfl ?_
          | refine clK_mk (m3) rfl ?_
          | refine clK_mk (qu) rfl ?_
          | simp only [go_sem, *])
    · have hsq' : Whole.small q = false := by simpa using hsq
      unfold encQ at n1 n2 d1 d2 qu ⊢
      rw [ratC_small hsp] at n1 d1 ⊢
      rw [ratC_big hsq'] at n2 d2 ⊢
      clear hsp hsq hsq' a1 a2 hp hq sl pp pq g2
      generalize p.num * q.num = x at *
      generalize (p.den : Int) * (q.den : Int) = z at *
      refine dcall_mk orders Tryz.func145 rfl (by kernel_rfl) (fun d => d == 4) (by kernel_rfl) rfl (fun hs => ?_)
      repeat' (first
        | (with_reducible first | refine sA ?_ ?_ | refine sB ?_ ?_ | refine sC ?_ ?_ | refine sD ?_ ?_ | refine sE ?_ ?_ | refine sF ?_ ?_) <;> intro h
        | refine clK_mk (n1) rfl ?_
        | refine clK_mk (n2) rfl ?_
        | refine clK_mk (d1) rfl ?_
        | refine clK_mk (d2) rfl ?_
        | refine clK_mk (m1) rfl ?_
        | refine clK_mk (m3) rfl ?_
        | refine clK_mk (qu) rfl ?_
        | simp only [go_sem, *])
  · have hsp' : Whole.small p = false := by simpa using hsp
    unfold encQ at n1 n2 d1 d2 qu ⊢
    rw [ratC_big hsp'] at n1 d1 ⊢
    clear hsp hsp' hp hq sl pp pq g1 g2
    generalize p.num * q.num = x at *
    generalize (p.den : Int) * (q.den : Int) = z at *
    refine dcall_mk orders Tryz.func145 rfl (by kernel_rfl) (fun d => d == 4) (by kernel_rfl) rfl (fun hs => ?_)
    repeat' (first
      | (with_reducible first | refine sA ?_ ?_ | refine sB ?_ ?_ | refine sC ?_ ?_ | refine sD ?_ ?_ | refine sE ?_ ?_ | refine sF ?_ ?_) <;> intro h
      | refine clK_mk (n1) rfl ?_
      | refine clK_mk (n2) rfl ?_
      | refine clK_mk (d1) rfl ?_
      | refine clK_mk (d2) rfl ?_
      | refine clK_mk (m1) rfl ?_
      | refine clK_mk (m3) rfl ?_
      | refine clK_mk (qu) rfl ?_
      | simp only [go_sem, *])
end YtihgdplbehempaaGreat
end Go.Vm
end
section
set_option linter.unusedSimpArgs false
set_option maxRecDepth 10000
namespace Go.Vm
open Go Go.Proofs Go.Whole
namespace YtihgdplbehempaaGreat
open Go.Proofs.Tryz
attribute [go_sem] Tryz.results84 Tryz.results163 Tryz.results88 Tryz.results165 Tryz.results164 Tryz.results87 Tryz.results75 Tryz.results83 Tryz.results158 Tryz.results85 Tryz.results77 Tryz.results31 Tryz.results162
def natT (nn : Bool) (n : Nat) : Tr := .sl nn (dl (digs n))
theorem cut_d (nn : Bool) (l : List Nat) (hlen : l.length ≤ 1000000) : DCall Tryz.prog 163 [.sl nn (dl l)] (.sl nn (dl (strip l))) := by
  refine dcall_mk orders Tryz.func163 rfl (by kernel_rfl) noMu (by kernel_rfl) rfl (fun hs => ?_)
  clear hs
  repeat' (first
    | (with_reducible first | refine sA ?_ ?_ | refine sB ?_ ?_ | refine sC ?_ ?_ | refine sD ?_ ?_ | refine sE ?_ ?_ | refine sF ?_ ?_) <;> intro h
    | simp only [go_sem, *])
  refine loop_mk (fun m s' => ∃ n : Nat, m = n ∧ n ≤ l.length ∧ s'.sl 3 = .t (i64 n) ∧ strip (l.take n) = strip l) l.length ⟨l.length, rfl, Nat.le_refl _, rfl, by rw [List.take_length]⟩ ?_
  rintro n s' ⟨_, rfl, hn, h3, hl⟩ hfr G hG
  have c0 := hfr 0 (by kernel_rfl)
  clear hfr
  simp only [go_sem] at c0
  cases n with
  | zero =>
    have g1 : decide (((0 : Nat) : Int) > 0) = false := rfl
    have hl' : strip l = [] := by rw [← hl]; rfl
    rw [hl']
    clear hl hl'
    have g2 : ((0 : Nat) : Int) ≤ (l.length : Int) := by omega
    repeat' (first
      | (with_reducible first | refine sA ?_ ?_ | refine sB ?_ ?_ | refine sC ?_ ?_ | refine sD ?_ ?_ | refine sE ?_ ?_ | refine sF ?_ ?_) <;> intro h
      | simp only [go_sem, *])
    all_goals rfl
  | succ n =>
    have hn' : n < l.length := by omega
    have g1 : decide (((n + 1 : Nat) : Int) > 0) = true := decide_eq_true (by omega)
    have g2 := wrap_len (n := n) (by omega)
    have g3 : l[n]? = some l[n] := List.getElem?_eq_getElem hn'
    have htk : l.take (n + 1) = l.take n ++ [l[n]] := by rw [List.take_add_one, g3]; rfl
    rw [htk, strip_snoc] at hl
    generalize l[n] = u at *
    by_cases hu : u = 0
    · subst hu
      rw [if_pos rfl] at hl
      have g4 : (((0 : Nat) : Int) == 0) = true := rfl
      repeat' (first
        | (with_reducible first | refine sA ?_ ?_ | refine sB ?_ ?_ | refine sC ?_ ?_ | refine sD ?_ ?_ | refine sE ?_ ?_ | refine sF ?_ ?_) <;> intro h
        | simp only [go_sem, *])
      exact hG n _ (Nat.lt_succ_self n) ⟨n, rfl, by omega, rfl, hl⟩
    · rw [if_neg hu, ← htk] at hl
      have g4 : ((u : Int) == 0) = false := by simpa using hu
      have g5 : ((n + 1 : Nat) : Int) ≤ (l.length : Int) := by omega
      rw [← hl, ← dl_take]
      clear hl htk
      repeat' (first
        | (with_reducible first | refine sA ?_ ?_ | refine sB ?_ ?_ | refine sC ?_ ?_ | refine sD ?_ ?_ | refine sE ?_ ?_ | refine sF ?_ ?_) <;> intro h
        | simp only [go_sem, *])
theorem getD_get {l : List Nat} {i : Nat} (h : i < l.length) : l[i]? = some (l.getD i 0) := by
  rw [List.getD_eq_getElem?_getD, List.getElem?_eq_getElem h]; rfl
theorem digit_d (nn : Bool) (l : List Nat) (i : Nat) (hl : okD l) : DCall Tryz.prog 165 [.sl nn (dl l), i64 i] (.int .u64 ((l.getD i 0 : Nat) : Int)) := by
  refine dcall_mk orders Tryz.func165 rfl (by kernel_rfl) noMu (by kernel_rfl) rfl (fun hs => ?_)
  clear hs
  by_cases h : i < l.length
  · have g1 : decide ((i : Int) < (l.length : Int)) = true := decide_eq_true (by omega)
    have g2 := getD_get h
    have hB := hl (l.getD i 0) (by rw [List.getD_eq_getElem?_getD, List.getElem?_eq_getElem h]; exact List.getElem_mem h)
    have g3 := wrap_u64_lt (n := l.getD i 0) (by rw [B_eq] at hB; omega)
    generalize l.getD i 0 = u at *
    clear hB
    repeat' (first
      | (with_reducible first | refine sA ?_ ?_ | refine sB ?_ ?_ | refine sC ?_ ?_ | refine sD ?_ ?_ | refine sE ?_ ?_ | refine sF ?_ ?_) <;> intro h
      | simp only [go_sem, *])
  · have g1 : decide ((i : Int) < (l.length : Int)) = false := decide_eq_false (by omega)
    have g2 : l.getD i 0 = 0 := by rw [List.getD_eq_getElem?_getD, List.getElem?_eq_none (by omega)]; rfl
    rw [g2]
    repeat' (first
      | (with_reducible first | refine sA ?_ ?_ | refine sB ?_ ?_ | refine sC ?_ ?_ | refine sD ?_ ?_ | refine sE ?_ ?_ | refine sF ?_ ?_) <;> intro h
      | simp only [go_sem, *])
    all_goals rfl
theorem headD_getD (l : List Nat) (i : Nat) : (l.drop i).headD 0 = l.getD i 0 := by
  by_cases h : i < l.length
  · rw [List.drop_eq_getElem_cons h, List.getD_eq_getElem?_getD, List.getElem?_eq_getElem h]; rfl
  · rw [drop_headD h, List.getD_eq_getElem?_getD, List.getElem?_eq_none (by omega)]; rfl
theorem val_drop (l : List Nat) (i : Nat) : val (l.drop i) = l.getD i 0 + B * val (l.drop (i + 1)) := by
  rw [val_head_tail (l.drop i), headD_getD, drop_tail]
theorem getD_lt {l : List Nat} (h : okD l) (i : Nat) : l.getD i 0 < B := by rw [← headD_getD]; exact okD_head (okD_drop h i)
theorem drop_val_zero {l : List Nat} {i : Nat} (h : l.length ≤ i) : val (l.drop i) = 0 := by rw [List.drop_eq_nil_of_le h]; rfl
theorem natT_of {acc : List Nat} (h : okD acc) {n : Nat} (hv : val acc = n) (hne : acc = [] ↔ n = 0) : Tr.sl (!acc.isEmpty) (dl (strip acc)) = natT (decide (n ≠ 0)) n := by
  unfold natT
  rw [strip_digs h, hv]
  congr 1
  by_cases hn : n = 0
  · rw [hne.2 hn]; simp [hn]
  · have : acc ≠ [] := fun e => hn (hne.1 e)
    cases acc with
    | nil => exact absurd rfl this
    | cons => simp [hn]
theorem own_dl {h : Hp} {d : Nat} {v : PV} {acc : List Nat} {x : Nat} (ho : Own h d tU32 1 false v ((!acc.isEmpty) || !([Tr.int .u32 (x : Int)] : List Tr).isEmpty) (dl acc ++ [.int .u32 (x : Int)])) : Own h d tU32 1 false v (!(acc ++ [x]).isEmpty) (dl (acc ++ [x])) := Own.snoc (f := u32) (xs := acc) (a := x) ho
theorem plusN_d (an bn : Bool) (a b : Nat) (ha : (digs a).length ≤ 900000) (hb : (digs b).length ≤ 900000) : DCall Tryz.prog 88 [natT an a, natT bn b] (natT (decide (a + b ≠ 0)) (a + b)) := by
  unfold natT
  have hA := digs_ok a
  have hB := digs_ok b
  have va := val_digs a
  have vb := val_digs b
  have za : digs a = [] ↔ a = 0 := digs_nil
  have zb : digs b = [] ↔ b = 0 := digs_nil
  change DCall _ _ _ (natT (decide (a + b ≠ 0)) (a + b))
  generalize digs a = X at *
  generalize digs b = Y at *
  refine dcall_mk orders Tryz.func88 rfl (by kernel_rfl) (fun d => d == 37) (by kernel_rfl) rfl (fun hs => ?_)
  clear hs
  repeat' (first
    | (with_reducible first | refine sA ?_ ?_ | refine sB ?_ ?_ | refine sC ?_ ?_ | refine sD ?_ ?_ | refine sE ?_ ?_ | refine sF ?_ ?_) <;> intro h
    | simp only [go_sem, *])
  refine loop_mk (fun m s' => ∃ (i c : Nat) (acc : List Nat), m = 2 * (max X.length Y.length - i) + c ∧ s'.sl 7 = .t (i64 i) ∧ s'.sl 6 = .t (.int .u64 (c : Int)) ∧ Own s'.hp 37 tU32 1 false (s'.sl 5) (!acc.isEmpty) (dl acc) ∧ acc.length = i ∧ (i ≤ max X.length Y.length ∨ (c = 0 ∧ i ≤ max X.length Y.length + 1)) ∧ c ≤ 1 ∧ okD acc ∧ val acc + B ^ i * (val (X.drop i) + val (Y.drop i) + c) = a + b ∧ (i = 0 → c = 0) ∧ (i = 0 ∨ X ≠ [] ∨ Y ≠ [])) (2 * max X.length Y.length)
    ⟨0, 0, [], by simp, rfl, rfl, Own.nil, rfl, .inl (Nat.zero_le _), Nat.zero_le _, okD_nil, by simp [val, va, vb], fun _ => rfl, .inl rfl⟩ ?_
  rintro m s' ⟨i, c, acc, hm, h7, h6, hown, hal, hi, hc, hao, hJ, hi0, hne⟩ hfr G hG
  have c0 := hfr 0 (by kernel_rfl)
  have c1 := hfr 1 (by kernel_rfl)
  clear hfr
  simp only [go_sem] at c0 c1
  by_cases hend : X.length ≤ i ∧ Y.length ≤ i ∧ c = 0
  · obtain ⟨e1, e2, e3⟩ := hend
    subst e3
    have g1 : decide ((i : Int) < (X.length : Int)) = false := decide_eq_false (by omega)
    have g2 : decide ((i : Int) < (Y.length : Int)) = false := decide_eq_false (by omega)
    have g3 : decide (((0 : Nat) : Int) > 0) = false := rfl
    rw [drop_val_zero e1, drop_val_zero e2] at hJ
    simp only [Nat.add_zero, Nat.mul_zero] at hJ
    have hemp : acc = [] ↔ a + b = 0 := by
      constructor
      · intro h
        rw [h] at hal hJ
        simpa [val] using hJ.symm
      · intro h
        have x0 : X = [] := za.2 (by omega)
        have y0 : Y = [] := zb.2 (by omega)
        rcases hne with h1 | h1 | h1
        · exact List.eq_nil_of_length_eq_zero (by omega)
        · exact absurd x0 h1
        · exact absurd y0 h1
    have hcut := cut_d (!acc.isEmpty) acc (by omega)
    rw [natT_of hao hJ hemp] at hcut
    have hdep := hown.dep
    clear hJ hemp hne za zb va vb hown e1 e2
    repeat' (first
      | (with_reducible first | refine sA ?_ ?_ | refine sB ?_ ?_ | refine sC ?_ ?_ | refine sD ?_ ?_ | refine sE ?_ ?_ | refine sF ?_ ?_) <;> intro h
      | simp only [go_sem, *])
    refine clK_fz hcut (by simp only [go_sem, hdep]) rfl ?_
    repeat' (first
      | (with_reducible first | refine sA ?_ ?_ | refine sB ?_ ?_ | refine sC ?_ ?_ | refine sD ?_ ?_ | refine sE ?_ ?_ | refine sF ?_ ?_) <;> intro h
      | simp only [go_sem, *])
  · have hu := getD_lt hA i
    have hv := getD_lt hB i
    have d1 := digit_d an X i hA
    have d2 := digit_d bn Y i hB
    have w1 := u64_add (X.getD i 0) (Y.getD i 0)
    rw [Nat.mod_eq_of_lt (show X.getD i 0 + Y.getD i 0 < 18446744073709551616 by rw [B_eq] at hu hv; omega)] at w1
    have w2 := u64_add c (X.getD i 0 + Y.getD i 0)
    rw [Nat.mod_eq_of_lt (show c + (X.getD i 0 + Y.getD i 0) < 18446744073709551616 by rw [B_eq] at hu hv; omega)] at w2
    have w3 := wrap_u32 (c + (X.getD i 0 + Y.getD i 0))
    have hi2 : i ≤ max X.length Y.length := by omega
    have hstep : val (X.drop i) + val (Y.drop i) + c = (c + (X.getD i 0 + Y.getD i 0)) % B + B * (val (X.drop (i + 1)) + val (Y.drop (i + 1)) + (c + (X.getD i 0 + Y.getD i 0)) / B) := by
      rw [val_drop X i, val_drop Y i]
      have := Nat.mod_add_div (c + (X.getD i 0 + Y.getD i 0)) B
      simp only [Nat.mul_add]; omega
    have hc' : (c + (X.getD i 0 + Y.getD i 0)) / B ≤ 1 := by rw [B_eq] at hu hv ⊢; omega
    have hdec : 2 * (max X.length Y.length - (i + 1)) + (c + (X.getD i 0 + Y.getD i 0)) / B < m := by
      subst hm
      by_cases hlt : i < max X.length Y.length
      · omega
      · have x0 : X.getD i 0 = 0 := by rw [List.getD_eq_getElem?_getD, List.getElem?_eq_none (by omega)]; rfl
        have y0 : Y.getD i 0 = 0 := by rw [List.getD_eq_getElem?_getD, List.getElem?_eq_none (by omega)]; rfl
        rw [x0, y0, B_eq]
        omega
    have hi3 : i + 1 ≤ max X.length Y.length ∨ ((c + (X.getD i 0 + Y.getD i 0)) / B = 0 ∧ i + 1 ≤ max X.length Y.length + 1) := by
      by_cases hlt : i < max X.length Y.length
      · left; omega
      · right
        have x0 : X.getD i 0 = 0 := by rw [List.getD_eq_getElem?_getD, List.getElem?_eq_none (by omega)]; rfl
        have y0 : Y.getD i 0 = 0 := by rw [List.getD_eq_getElem?_getD, List.getElem?_eq_none (by omega)]; rfl
        rw [x0, y0, B_eq]
        exact ⟨by omega, by omega⟩
    have hne' : X ≠ [] ∨ Y ≠ [] := by
      rcases hne with h1 | h1
      · refine Decidable.byContradiction fun h2 => ?_
        have x0 : X = [] := Decidable.byContradiction fun h => h2 (.inl h)
        have y0 : Y = [] := Decidable.byContradiction fun h => h2 (.inr h)
        exact hend ⟨by rw [x0]; simp, by rw [y0]; simp, hi0 h1⟩
      · exact h1
    have hmax : max X.length Y.length ≤ 900000 := by omega
    have hwr := wrap_succ (k := i) (by omega)
    have hjj : val (acc ++ [(c + (X.getD i 0 + Y.getD i 0)) % B]) + B ^ (i + 1) * (val (X.drop (i + 1)) + val (Y.drop (i + 1)) + (c + (X.getD i 0 + Y.getD i 0)) / B) = a + b := by
      rw [← hJ, hstep, val_append, hal, Nat.pow_succ]
      simp only [val, Nat.mul_zero, Nat.add_zero, Nat.mul_add, Nat.mul_assoc]; omega
    have hoo : okD (acc ++ [(c + (X.getD i 0 + Y.getD i 0)) % B]) := by rw [okD_append, okD_cons]; exact ⟨hao, mod_B _, okD_nil⟩
    have w4 : (c + (X.getD i 0 + Y.getD i 0)) / 4294967296 = (c + (X.getD i 0 + Y.getD i 0)) / B := rfl
    have cases3 : (decide ((i : Int) < (X.length : Int)) = true) ∨ (decide ((i : Int) < (X.length : Int)) = false ∧ decide ((i : Int) < (Y.length : Int)) = true) ∨ (decide ((i : Int) < (X.length : Int)) = false ∧ decide ((i : Int) < (Y.length : Int)) = false ∧ decide ((c : Int) > 0) = true) := by
      by_cases h1 : i < X.length
      · left; exact decide_eq_true (by omega)
      · right
        by_cases h2 : i < Y.length
        · left; exact ⟨decide_eq_false (by omega), decide_eq_true (by omega)⟩
        · right; exact ⟨decide_eq_false (by omega), decide_eq_false (by omega), decide_eq_true (by omega)⟩
    clear hstep hJ hend hne hi hi0 za zb va vb hu hv hi2
    generalize c + (X.getD i 0 + Y.getD i 0) = t at *
    rcases cases3 with g1 | ⟨g1, g2⟩ | ⟨g1, g2, g3⟩
    all_goals
      repeat' (first
        | (with_reducible first | refine sA ?_ ?_ | refine sB ?_ ?_ | refine sC ?_ ?_ | refine sD ?_ ?_ | refine sE ?_ ?_ | refine sF ?_ ?_) <;> intro h
        | refine clK_mk (d1) rfl ?_
        | refine clK_mk (d2) rfl ?_
        | simp only [go_sem, *])
      have hdl := dl_length acc
      refine hpK_append (hown) rfl (by kernel_rfl) (by kernel_rfl) (by kernel_rfl) (by kernel_rfl) rfl (by kernel_rfl) (ok_int _ _) (by simp; omega) (fun v' h' ho hf => ?_)
      clear hdl
      repeat' (first
        | (with_reducible first | refine sA ?_ ?_ | refine sB ?_ ?_ | refine sC ?_ ?_ | refine sD ?_ ?_ | refine sE ?_ ?_ | refine sF ?_ ?_) <;> intro h
        | simp only [go_sem, *])
      refine hG _ _ hdec ⟨i + 1, t / B, acc ++ [t % B], rfl, rfl, rfl, own_dl ho, by simp [hal], hi3, hc', hoo, hjj, fun h => absurd h (by omega), .inr hne'⟩
theorem ok_dl (l : List Nat) : ∀ x ∈ dl l, elemOK false 1 x := by
  intro x hx
  obtain ⟨n, _, rfl⟩ := List.mem_map.1 hx
  exact ⟨(fun h => nomatch h), fun _ => rfl, rfl⟩
theorem fresh_dl {h : Hp} {d : Nat} {e : TypeId} {l : List Nat} {n : Nat} (hn : l.length = n) : Own (hnew h d ⟨(dl l).map .t, 1, n, e, false, true⟩) d e 1 false (.rf (hnext h d) n) true (dl l) := by
  have := Own.fresh (h := h) (d := d) (e := e) (ok_dl l)
  rw [flat_dl, dl_length, hn] at this
  exact this
theorem own_dlt {h : Hp} {d : Nat} {v : PV} {acc : List Nat} {x : Nat} (ho : Own h d tU32 1 false v true (dl acc ++ [.int .u32 (x : Int)])) : Own h d tU32 1 false v true (dl (acc ++ [x])) := by rw [dl_append]; exact ho
theorem halfN_d (an : Bool) (a k s : Nat) (hk : k < B) (hs1 : s ≤ 1) (ha : (digs a).length ≤ 800000) : DCall Tryz.prog 164 [natT an a, .int .u64 (k : Int), i64 s] (natT true (a * k * B ^ s)) := by
  unfold natT
  have hA := digs_ok a
  have va := val_digs a
  change DCall _ _ _ (natT true (a * k * B ^ s))
  generalize digs a = X at *
  refine dcall_mk orders Tryz.func164 rfl (by kernel_rfl) (fun d => d == 11 || d == 33) (by kernel_rfl) rfl (fun hs => ?_)
  clear hs
  repeat' (first
    | (with_reducible first | refine sA ?_ ?_ | refine sB ?_ ?_ | refine sC ?_ ?_ | refine sD ?_ ?_ | refine sE ?_ ?_ | refine sF ?_ ?_) <;> intro h
    | simp only [go_sem, *])
  refine hpK_if ⟨by omega, by omega⟩ ?_
  repeat' (first
    | (with_reducible first | refine sA ?_ ?_ | refine sB ?_ ?_ | refine sC ?_ ?_ | refine sD ?_ ?_ | refine sE ?_ ?_ | refine sF ?_ ?_) <;> intro h
    | simp only [go_sem, *])
  refine loop_mk (fun m s' => ∃ (i c : Nat) (acc : List Nat), m = 2 * (X.length - i) + (if c = 0 then 0 else 1) ∧ s'.sl 9 = .t (i64 i) ∧ s'.sl 8 = .t (.int .u64 (c : Int)) ∧ Own s'.hp 11 tU32 1 false (s'.sl 7) true (dl acc) ∧ acc.length = s + i ∧ (i ≤ X.length ∨ (c = 0 ∧ i ≤ X.length + 1)) ∧ c < B ∧ okD acc ∧ val acc + B ^ (s + i) * (val (X.drop i) * k + c) = a * k * B ^ s) (2 * X.length)
    ⟨0, 0, List.replicate s 0, by simp, rfl, rfl, fresh_dl (by simp), by simp, .inl (Nat.zero_le _), B_pos, okD_zeros s, by rw [val_zeros]; simp [va]; rw [Nat.mul_comm]⟩ ?_
  rintro m s' ⟨i, c, acc, hm, h9, h8, hown, hal, hi, hc, hao, hJ⟩ hfr G hG
  have c0 := hfr 0 (by kernel_rfl)
  have c1 := hfr 1 (by kernel_rfl)
  clear hfr
  simp only [go_sem] at c0 c1
  by_cases hend : X.length ≤ i ∧ c = 0
  · obtain ⟨e1, e2⟩ := hend
    subst e2
    have g1 : decide ((i : Int) < (X.length : Int)) = false := decide_eq_false (by omega)
    have g3 : decide (((0 : Nat) : Int) > 0) = false := rfl
    rw [drop_val_zero e1] at hJ
    simp only [Nat.zero_mul, Nat.add_zero, Nat.mul_zero] at hJ
    have hcut := cut_d true acc (by omega)
    rw [strip_digs hao, hJ] at hcut
    change DCall _ _ _ (natT true (a * k * B ^ s)) at hcut
    have hdep := hown.dep
    clear hJ va hown e1
    repeat' (first
      | (with_reducible first | refine sA ?_ ?_ | refine sB ?_ ?_ | refine sC ?_ ?_ | refine sD ?_ ?_ | refine sE ?_ ?_ | refine sF ?_ ?_) <;> intro h
      | simp only [go_sem, *])
    refine clK_fz hcut (by simp only [go_sem, hdep]) rfl ?_
    repeat' (first
      | (with_reducible first | refine sA ?_ ?_ | refine sB ?_ ?_ | refine sC ?_ ?_ | refine sD ?_ ?_ | refine sE ?_ ?_ | refine sF ?_ ?_) <;> intro h
      | simp only [go_sem, *])
  · have hu := getD_lt hA i
    have d1 := digit_d an X i hA
    have hb := mac_room hu hk hc B_pos
    simp only [Nat.add_zero] at hb
    obtain ⟨b1, b2, b3, _⟩ := hb
    have w1 := u64_mul (X.getD i 0) k
    rw [Nat.mod_eq_of_lt b3] at w1
    have w2 := u64_add c (X.getD i 0 * k)
    rw [Nat.mod_eq_of_lt b1] at w2
    have w3 := wrap_u32 (c + X.getD i 0 * k)
    have w4 : (c + X.getD i 0 * k) / 4294967296 = (c + X.getD i 0 * k) / B := rfl
    have hstep : val (X.drop i) * k + c = (c + X.getD i 0 * k) % B + B * (val (X.drop (i + 1)) * k + (c + X.getD i 0 * k) / B) := by
      rw [val_drop X i, Nat.add_mul, Nat.mul_assoc]
      have := Nat.mod_add_div (c + X.getD i 0 * k) B
      simp only [Nat.mul_add]; omega
    have hz : X.length ≤ i → X.getD i 0 = 0 := fun h => by rw [List.getD_eq_getElem?_getD, List.getElem?_eq_none h]; rfl
    have hdec : 2 * (X.length - (i + 1)) + (if (c + X.getD i 0 * k) / B = 0 then 0 else 1) < m := by
      subst hm
      by_cases hlt : i < X.length
      · split <;> split <;> omega
      · have h0 : (c + X.getD i 0 * k) / B = 0 := by rw [hz (by omega), Nat.zero_mul, Nat.add_zero]; exact Nat.div_eq_of_lt hc
        rw [if_pos h0, if_neg (fun h => hend ⟨by omega, h⟩)]
        omega
    have hi3 : i + 1 ≤ X.length ∨ ((c + X.getD i 0 * k) / B = 0 ∧ i + 1 ≤ X.length + 1) := by
      by_cases hlt : i < X.length
      · left; omega
      · right
        refine ⟨by rw [hz (by omega), Nat.zero_mul, Nat.add_zero]; exact Nat.div_eq_of_lt hc, ?_⟩
        rcases hi with h | h
        · omega
        · exact absurd ⟨by omega, h.1⟩ hend
    have hwr := wrap_succ (k := i) (by omega)
    have hjj : val (acc ++ [(c + X.getD i 0 * k) % B]) + B ^ (s + (i + 1)) * (val (X.drop (i + 1)) * k + (c + X.getD i 0 * k) / B) = a * k * B ^ s := by
      rw [← hJ, hstep, val_append, hal, ← Nat.add_assoc, Nat.pow_succ]
      simp only [val, Nat.mul_zero, Nat.add_zero, Nat.mul_add, Nat.mul_assoc]; omega
    have hoo : okD (acc ++ [(c + X.getD i 0 * k) % B]) := by rw [okD_append, okD_cons]; exact ⟨hao, mod_B _, okD_nil⟩
    have cases2 : (decide ((i : Int) < (X.length : Int)) = true) ∨ (decide ((i : Int) < (X.length : Int)) = false ∧ decide ((c : Int) > 0) = true) := by
      by_cases h1 : i < X.length
      · left; exact decide_eq_true (by omega)
      · right; exact ⟨decide_eq_false (by omega), decide_eq_true (by omega)⟩
    clear hstep hJ hend hi va hu b1 b3 hz
    generalize c + X.getD i 0 * k = t at *
    rcases cases2 with g1 | ⟨g1, g2⟩
    all_goals
      repeat' (first
        | (with_reducible first | refine sA ?_ ?_ | refine sB ?_ ?_ | refine sC ?_ ?_ | refine sD ?_ ?_ | refine sE ?_ ?_ | refine sF ?_ ?_) <;> intro h
        | refine clK_mk (d1) rfl ?_
        | simp only [go_sem, *])
      have hdl := dl_length acc
      refine hpK_append_any hown (by kernel_rfl) (by kernel_rfl) (by kernel_rfl) rfl (by kernel_rfl) (ok_int _ _) (by simp; omega) (fun v' h' ho hf => ?_)
      clear hdl
      repeat' (first
        | (with_reducible first | refine sA ?_ ?_ | refine sB ?_ ?_ | refine sC ?_ ?_ | refine sD ?_ ?_ | refine sE ?_ ?_ | refine sF ?_ ?_) <;> intro h
        | simp only [go_sem, *])
      refine hG _ _ hdec ⟨i + 1, t / B, acc ++ [t % B], rfl, rfl, rfl, own_dlt ho, by simp [hal]; omega, hi3, b2, hoo, hjj⟩
end YtihgdplbehempaaGreat
end Go.Vm
end
section
set_option linter.unusedSimpArgs false
set_option maxRecDepth 10000
namespace Go.Vm
open Go Go.Proofs Go.Whole
namespace YtihgdplbehempaaGreat
open Go.Proofs.Tryz
attribute [go_sem] natT
theorem timesN_d (an : Bool) (a k : Nat) (hk : k < 18446744073709551616) (ha : (digs a).length ≤ 700000) : DCall Tryz.prog 87 [natT an a, .int .u64 (k : Int)] (natT (decide (a * k ≠ 0)) (a * k)) := by
  have h0 := halfN_d an a (k % 4294967296) 0 (by rw [B_eq]; omega) (by decide) (by omega)
  have h1 := halfN_d an a (k / 4294967296) 1 (by rw [B_eq]; omega) (by decide) (by omega)
  rw [Nat.pow_zero, Nat.mul_one] at h0
  rw [Nat.pow_one] at h1
  have l0 : (digs (a * (k % 4294967296))).length ≤ 700001 := len_mul (n := 1) ha (digs_length_le (by rw [Nat.pow_one, B_eq]; omega))
  have l1 : (digs (a * (k / 4294967296) * B)).length ≤ 700003 := len_mul (n := 2) (len_mul (n := 1) ha (digs_length_le (by rw [Nat.pow_one, B_eq]; omega))) (digs_length_le (by decide))
  have hp := plusN_d true true (a * (k % 4294967296)) (a * (k / 4294967296) * B) (by omega) (by omega)
  have e : a * (k % 4294967296) + a * (k / 4294967296) * B = a * k := by
    rw [Nat.mul_assoc, ← Nat.mul_add]
    congr 1
    rw [B_eq]; omega
  rw [e] at hp
  have hm := and_mask (P := Tryz.prog) (h := fun _ => []) 38 hk
  clear e l0 l1 ha
  generalize a * (k % 4294967296) = x at *
  generalize a * (k / 4294967296) * B = y at *
  generalize a * k = z at *
  unfold natT at h0 h1 hp ⊢
  generalize decide (z ≠ 0) = zz at *
  refine dcall_mk orders Tryz.func87 rfl (by kernel_rfl) noMu (by kernel_rfl) rfl (fun hs => ?_)
  clear hs hk
  repeat' (first
    | (with_reducible first | refine sA ?_ ?_ | refine sB ?_ ?_ | refine sC ?_ ?_ | refine sD ?_ ?_ | refine sE ?_ ?_ | refine sF ?_ ?_) <;> intro h
    | refine clK_mk (h0) rfl ?_
    | refine clK_mk (h1) rfl ?_
    | refine clK_mk (hp) rfl ?_
    | simp only [go_sem, *])
theorem ofN_d (n : Nat) (hn : n < 18446744073709551616) : DCall Tryz.prog 84 [.int .u64 (n : Int)] (natT true n) := by
  have h1 : n / 4294967296 % B = n / 4294967296 := Nat.mod_eq_of_lt (by rw [B_eq]; omega)
  have ho : okD [n % B, n / 4294967296] := by rw [okD_cons, okD_cons]; exact ⟨Nat.mod_lt _ B_pos, by rw [B_eq]; omega, okD_nil⟩
  have hc := cut_d true [n % B, n / 4294967296] (by simp)
  have hv : val [n % B, n / 4294967296] = n := by simp only [val, B_eq]; omega
  rw [strip_digs ho, hv] at hc
  refine dcall_mk orders Tryz.func84 rfl (by kernel_rfl) noMu (by kernel_rfl) rfl (fun hs => ?_)
  clear hs ho hv
  repeat' (first
    | (with_reducible first | refine sA ?_ ?_ | refine sB ?_ ?_ | refine sC ?_ ?_ | refine sD ?_ ?_ | refine sE ?_ ?_ | refine sF ?_ ?_) <;> intro h
    | refine clK_mk (hc) rfl ?_
    | simp only [go_sem, *, wrap_u32])
theorem sizeN_d (a : Int) (h : inI64 a) : DCall Tryz.prog 75 [i64 a] (.int .u64 (a.natAbs : Int)) := by
  obtain ⟨h1, h2⟩ := h
  refine dcall_mk orders Tryz.func75 rfl (by kernel_rfl) noMu (by kernel_rfl) rfl (fun hs => ?_)
  clear hs
  by_cases hz : a < 0
  · have f0 : decide (a < 0) = true := decide_eq_true hz
    have f1 := wrap_u64_neg h1 hz
    have f2 := wrap_u64_sub (n := a.natAbs) (by omega) (by omega)
    rw [Nat.mod_eq_of_lt (by omega)] at f2
    repeat' (first
      | (with_reducible first | refine sA ?_ ?_ | refine sB ?_ ?_ | refine sC ?_ ?_ | refine sD ?_ ?_ | refine sE ?_ ?_ | refine sF ?_ ?_) <;> intro h
      | simp only [go_sem, *])
  · have f0 : decide (a < 0) = false := decide_eq_false hz
    have f1 := wrap_u64_pos h2 (by omega)
    repeat' (first
      | (with_reducible first | refine sA ?_ ?_ | refine sB ?_ ?_ | refine sC ?_ ?_ | refine sD ?_ ?_ | refine sE ?_ ?_ | refine sF ?_ ?_) <;> intro h
      | simp only [go_sem, *])
theorem lessN_d (an bn : Bool) (x y : Nat) (hla : (digs x).length ≤ 1000000) (hlb : (digs y).length ≤ 1000000) : DCall Tryz.prog 83 [natT an x, natT bn y] (.bool (decide (x < y))) := by
  have ha := digs_ok x
  have hb := digs_ok y
  have va := val_digs x
  have vb := val_digs y
  have hlen : (digs x).length ≠ (digs y).length → decide (((digs x).length : Int) < ((digs y).length : Int)) = decide (x < y) := by
    intro h
    rw [Bool.eq_iff_iff, decide_eq_true_iff, decide_eq_true_iff]
    constructor
    · intro h2
      refine Decidable.byContradiction fun h3 => ?_
      have := digs_length_mono (a := y) (b := x) (by omega)
      omega
    · intro h2
      have := digs_length_mono (a := x) (b := y) (by omega)
      omega
  unfold natT
  generalize digs x = a at *
  generalize digs y = b at *
  refine dcall_mk orders Tryz.func83 rfl (by kernel_rfl) noMu (by kernel_rfl) rfl (fun hs => ?_)
  clear hs
  by_cases hl : a.length = b.length
  · have f1 : ((a.length : Int) != (b.length : Int)) = false := by simp; omega
    have hl1 : a.length ≤ b.length := by omega
    have hl2 : b.length ≤ a.length := by omega
    have f2 : IntKind.i64.wrap ((a.length : Int) - 1) = (a.length : Int) - 1 := wrap_i64 (by omega) (by omega)
    rw [← va, ← vb]
    clear hl hlen va vb
    repeat' (first
      | (with_reducible first | refine sA ?_ ?_ | refine sB ?_ ?_ | refine sC ?_ ?_ | refine sD ?_ ?_ | refine sE ?_ ?_ | refine sF ?_ ?_) <;> intro h
      | simp only [go_sem, *])
    refine loop_mk (fun m s' => ∃ i : Nat, m = i ∧ i ≤ a.length ∧ s'.sl 5 = .t (i64 ((i : Int) - 1)) ∧ a.drop i = b.drop i) a.length ⟨a.length, rfl, Nat.le_refl _, rfl, by rw [List.drop_length, List.drop_eq_nil_of_le hl2]⟩ ?_
    rintro i s' ⟨_, rfl, hi, h5, hd⟩ hfr G hG
    have c0 := hfr 0 (by kernel_rfl)
    have c1 := hfr 1 (by kernel_rfl)
    clear hfr
    simp only [go_sem] at c0 c1
    cases i with
    | zero =>
      have g1 : decide ((((0 : Nat) : Int) - 1) ≥ 0) = false := rfl
      have he : a = b := by simpa using hd
      subst he
      have g2 : decide (val a < val a) = false := decide_eq_false (by omega)
      repeat' (first
        | (with_reducible first | refine sA ?_ ?_ | refine sB ?_ ?_ | refine sC ?_ ?_ | refine sD ?_ ?_ | refine sE ?_ ?_ | refine sF ?_ ?_) <;> intro h
        | simp only [go_sem, *])
    | succ j =>
      have hj : j < a.length := by omega
      have hjb : j < b.length := by omega
      have e0 : (((j + 1 : Nat) : Int) - 1) = (j : Int) := by omega
      rw [e0] at h5
      have g1 : decide (((j : Nat) : Int) ≥ 0) = true := by simp
      have g2 : a[j]? = some a[j] := List.getElem?_eq_getElem hj
      have g3 : b[j]? = some b[j] := List.getElem?_eq_getElem hjb
      have g4 : IntKind.i64.wrap ((j : Int) - 1) = (j : Int) - 1 := wrap_i64 (by omega) (by omega)
      by_cases hx : a[j] = b[j]
      · rw [hx] at g2
        have g5 : (((b[j] : Nat) : Int) != ((b[j] : Nat) : Int)) = false := by simp
        have hda : a.drop j = b.drop j := by rw [List.drop_eq_getElem_cons hj, List.drop_eq_getElem_cons hjb, hd, hx]
        clear hx hd
        repeat' (first
          | (with_reducible first | refine sA ?_ ?_ | refine sB ?_ ?_ | refine sC ?_ ?_ | refine sD ?_ ?_ | refine sE ?_ ?_ | refine sF ?_ ?_) <;> intro h
          | simp only [go_sem, *])
        refine hG _ _ (Nat.lt_succ_self j) ⟨j, rfl, by omega, rfl, hda⟩
      · have g5 : (((a[j] : Nat) : Int) != ((b[j] : Nat) : Int)) = true := by simpa using fun h => hx (by omega)
        by_cases hlt : a[j] < b[j]
        · have g6 : decide (((a[j] : Nat) : Int) < ((b[j] : Nat) : Int)) = true := by simpa using hlt
          have hv := val_lt_of_drop ha hb (by omega) hj hd (by simpa [hj, hjb] using hlt)
          rw [decide_eq_true hv]
          repeat' (first
            | (with_reducible first | refine sA ?_ ?_ | refine sB ?_ ?_ | refine sC ?_ ?_ | refine sD ?_ ?_ | refine sE ?_ ?_ | refine sF ?_ ?_) <;> intro h
            | simp only [go_sem, *])
        · have g6 : decide (((a[j] : Nat) : Int) < ((b[j] : Nat) : Int)) = false := by simpa using hlt
          have hv := val_lt_of_drop hb ha (by omega) hjb hd.symm (by simpa [hj, hjb] using (show b[j] < a[j] by omega))
          rw [decide_eq_false (show ¬ val a < val b by omega)]
          repeat' (first
            | (with_reducible first | refine sA ?_ ?_ | refine sB ?_ ?_ | refine sC ?_ ?_ | refine sD ?_ ?_ | refine sE ?_ ?_ | refine sF ?_ ?_) <;> intro h
            | simp only [go_sem, *])
  · have f1 : ((a.length : Int) != (b.length : Int)) = true := by simpa using fun h => hl (by omega)
    have f2 := hlen hl
    clear hlen va vb
    repeat' (first
      | (with_reducible first | refine sA ?_ ?_ | refine sB ?_ ?_ | refine sC ?_ ?_ | refine sD ?_ ?_ | refine sE ?_ ?_ | refine sF ?_ ?_) <;> intro h
      | simp only [go_sem, *])
theorem sameN_d (an bn : Bool) (x y : Nat) (hla : (digs x).length ≤ 1000000) (hlb : (digs y).length ≤ 1000000) : DCall Tryz.prog 158 [natT an x, natT bn y] (.bool (decide (x = y))) := by
  have h1 := lessN_d an bn x y hla hlb
  have h2 := lessN_d bn an y x hlb hla
  rcases Nat.lt_trichotomy x y with h | h | h
  · rw [decide_eq_true h] at h1
    rw [decide_eq_false (by omega)]
    clear hla hlb h
    refine dcall_mk orders Tryz.func158 rfl (by kernel_rfl) noMu (by kernel_rfl) rfl (fun hs => ?_)
    clear hs
    repeat' (first
      | (with_reducible first | refine sA ?_ ?_ | refine sB ?_ ?_ | refine sC ?_ ?_ | refine sD ?_ ?_ | refine sE ?_ ?_ | refine sF ?_ ?_) <;> intro h
      | refine clK_mk (h1) rfl ?_
      | simp only [go_sem, *])
  · rw [decide_eq_false (by omega)] at h1 h2
    rw [decide_eq_true h]
    clear hla hlb h
    refine dcall_mk orders Tryz.func158 rfl (by kernel_rfl) noMu (by kernel_rfl) rfl (fun hs => ?_)
    clear hs
    repeat' (first
      | (with_reducible first | refine sA ?_ ?_ | refine sB ?_ ?_ | refine sC ?_ ?_ | refine sD ?_ ?_ | refine sE ?_ ?_ | refine sF ?_ ?_) <;> intro h
      | refine clK_mk (h1) rfl ?_
      | refine clK_mk (h2) rfl ?_
      | simp only [go_sem, *])
  · rw [decide_eq_false (by omega)] at h1
    rw [decide_eq_true h] at h2
    rw [decide_eq_false (by omega)]
    clear hla hlb h
    refine dcall_mk orders Tryz.func158 rfl (by kernel_rfl) noMu (by kernel_rfl) rfl (fun hs => ?_)
    clear hs
    repeat' (first
      | (with_reducible first | refine sA ?_ ?_ | refine sB ?_ ?_ | refine sC ?_ ?_ | refine sD ?_ ?_ | refine sE ?_ ?_ | refine sF ?_ ?_) <;> intro h
      | refine clK_mk (h1) rfl ?_
      | refine clK_mk (h2) rfl ?_
      | simp only [go_sem, *])
end YtihgdplbehempaaGreat
end Go.Vm
end
section
set_option linter.unusedSimpArgs false
set_option maxRecDepth 10000
namespace Go.Vm
open Go Go.Proofs Go.Whole
theorem flat_cons (x : Tr) (l : List Tr) : flat (x :: l) = x.cells ++ flat l := rfl
theorem flat_split {l : List Tr} {k : Nat} {x : Tr} (hx : l[k]? = some x) : flat l = flat (l.take k) ++ (x.cells ++ flat (l.drop (k + 1))) := by
  have hk := (List.getElem?_eq_some_iff.1 hx).1
  have hv := (List.getElem?_eq_some_iff.1 hx).2
  conv => lhs; rw [← List.take_append_drop k l, flat_append, List.drop_eq_getElem_cons hk, hv, flat_cons]
theorem flat_take_len {l : List Tr} {esz : Nat} (he : ∀ y ∈ l, y.cells.length = esz) {k : Nat} (hk : k ≤ l.length) : (flat (l.take k)).length = k * esz := by
  rw [flat_length _ esz (fun y hy => he y (List.mem_of_mem_take hy)), List.length_take, Nat.min_eq_left hk]
theorem flat_cells_get {l : List Tr} {esz k : Nat} {x : Tr} (he : ∀ y ∈ l, y.cells.length = esz) (hx : l[k]? = some x) : ((((flat l).map PV.t).drop (k * esz)).take esz) = x.cells.map PV.t := by
  have hk := (List.getElem?_eq_some_iff.1 hx).1
  have hl := flat_take_len he (Nat.le_of_lt hk)
  have hxl := he x (List.mem_of_getElem? hx)
  rw [flat_split hx, List.map_append, List.map_append, List.drop_left' (by simp [hl]), List.take_left' (by simp [hxl])]
theorem flat_set {l : List Tr} {k : Nat} {x y : Tr} (hx : l[k]? = some x) : flat (l.set k y) = flat (l.take k) ++ (y.cells ++ flat (l.drop (k + 1))) := by
  have hk := (List.getElem?_eq_some_iff.1 hx).1
  have h1 : (l.set k y)[k]? = some y := List.getElem?_set_self hk
  rw [flat_split h1, List.take_set_of_le (Nat.le_refl _), List.drop_set_of_lt (by omega)]
theorem flat_splice {l : List Tr} {esz k : Nat} {x y : Tr} (he : ∀ y ∈ l, y.cells.length = esz) (hx : l[k]? = some x) (hy : y.cells.length = esz) : splice ((flat l).map PV.t) (k * esz) (y.cells.map PV.t) = (flat (l.set k y)).map PV.t := by
  have hk := (List.getElem?_eq_some_iff.1 hx).1
  have hl := flat_take_len he (Nat.le_of_lt hk)
  have hxl := he x (List.mem_of_getElem? hx)
  rw [flat_set hx, splice_def', flat_split hx]
  simp only [List.map_append, List.length_map]
  rw [List.take_left' (by simp [hl]), hy, List.append_assoc]
  congr 1
  congr 1
  rw [show k * esz + esz = (flat (l.take k)).length + x.cells.length by rw [hl, hxl], ← List.drop_drop, List.drop_left' (by simp), List.drop_left' (by simp)]
theorem zrow_flat (z : List Tr) : ∀ n, zrow z n = flat (List.replicate n (.agg z))
  | 0 => rfl
  | n + 1 => by rw [zrow, zrow_flat z n, List.replicate_succ, flat_cons]; rfl
theorem toTr_flat {h : Hp} {id : Id} {l : List Tr} {esz n : Nat} {e : TypeId} {lv : Bool} (k : Nat) (hl : ∀ x ∈ l, elemOK true esz x) (hn : l.length = n) (hg : hget h id = some ⟨(flat l).map .t, esz, n, e, true, lv⟩) : toTr h (k + 1) (.rf id n) = some (.sl true l) := by
  rw [toTr_rf', hg]
  subst hn
  simp only [if_true, mapO_t, elems_flat hl]
namespace YtihgdplbehempaaGreat
open Go.Proofs.Tryz
structure RInt where
  pn : Bool
  p : Nat
  nn : Bool
  n : Nat
def RInt.cs (x : RInt) : List Tr := [.sl x.pn (dl (digs x.p)), .sl x.nn (dl (digs x.n))]
def RInt.tr (x : RInt) : Tr := .agg x.cs
attribute [go_sem] RInt.cs RInt.tr
abbrev tRInt : TypeId := 51
def withR (x : RInt) (k : Int) (b : Nat) : RInt := if k < 0 then { x with nn := decide (x.n + b * k.natAbs ≠ 0), n := x.n + b * k.natAbs } else { x with pn := decide (x.p + b * k.natAbs ≠ 0), p := x.p + b * k.natAbs }
theorem withR_v (x : RInt) (k : Int) (b : Nat) : ((withR x k b).p : Int) - (withR x k b).n = (x.p : Int) - x.n + k * b := by
  unfold withR
  split
  · rename_i h
    have : ((b * k.natAbs : Nat) : Int) = -(k * b) := by rw [Int.natCast_mul, show ((k.natAbs : Nat) : Int) = -k by omega, Int.mul_neg, Int.mul_comm]
    simp only
    rw [Int.natCast_add, this]; omega
  · rename_i h
    have : ((b * k.natAbs : Nat) : Int) = k * b := by rw [Int.natCast_mul, show ((k.natAbs : Nat) : Int) = k by omega, Int.mul_comm]
    simp only
    rw [Int.natCast_add, this]; omega
theorem with_d (x : RInt) (k : Int) (bn : Bool) (b : Nat) (hk : inI64 k) (hb : (digs b).length ≤ 100) (hp : (digs x.p).length ≤ 600000) (hn : (digs x.n).length ≤ 600000) : DCall Tryz.prog 85 [x.tr, i64 k, natT bn b] (withR x k b).tr := by
  have s1 := sizeN_d k hk
  have hk64 : k.natAbs < 18446744073709551616 := by obtain ⟨h1, h2⟩ := hk; omega
  have t1 := timesN_d bn b k.natAbs hk64 (by omega)
  have hbl : (digs (b * k.natAbs)).length ≤ 102 := len_mul (n := 2) hb (digs_length_le (by rw [show B ^ 2 = 18446744073709551616 by decide]; exact hk64))
  by_cases hz : k < 0
  · have p1 := plusN_d x.nn (decide (b * k.natAbs ≠ 0)) x.n (b * k.natAbs) (by omega) (by omega)
    have g : decide (k < 0) = true := decide_eq_true hz
    rw [show withR x k b = { x with nn := decide (x.n + b * k.natAbs ≠ 0), n := x.n + b * k.natAbs } from if_pos hz]
    clear hz hbl hp hn hb hk hk64
    generalize b * k.natAbs = z at *
    generalize x.n + z = z2 at *
    generalize decide (z2 ≠ 0) = b2 at *
    generalize decide (z ≠ 0) = b1 at *
    refine dcall_mk orders Tryz.func85 rfl (by kernel_rfl) (fun d => d == 3 || d == 6 || d == 9 || d == 17) (by kernel_rfl) rfl (fun hs => ?_)
    clear hs
    repeat' (first
      | (with_reducible first | refine sA ?_ ?_ | refine sB ?_ ?_ | refine sC ?_ ?_ | refine sD ?_ ?_ | refine sE ?_ ?_ | refine sF ?_ ?_) <;> intro h
      | refine clK_mk (s1) rfl ?_
      | refine clK_mk (t1) rfl ?_
      | refine clK_mk (p1) rfl ?_
      | simp only [go_sem, *])
  · have p1 := plusN_d x.pn (decide (b * k.natAbs ≠ 0)) x.p (b * k.natAbs) (by omega) (by omega)
    have g : decide (k < 0) = false := decide_eq_false hz
    rw [show withR x k b = { x with pn := decide (x.p + b * k.natAbs ≠ 0), p := x.p + b * k.natAbs } from if_neg hz]
    clear hz hbl hp hn hb hk hk64
    generalize b * k.natAbs = z at *
    generalize x.p + z = z2 at *
    generalize decide (z2 ≠ 0) = b2 at *
    generalize decide (z ≠ 0) = b1 at *
    refine dcall_mk orders Tryz.func85 rfl (by kernel_rfl) (fun d => d == 3 || d == 6 || d == 9 || d == 17) (by kernel_rfl) rfl (fun hs => ?_)
    clear hs
    repeat' (first
      | (with_reducible first | refine sA ?_ ?_ | refine sB ?_ ?_ | refine sC ?_ ?_ | refine sD ?_ ?_ | refine sE ?_ ?_ | refine sF ?_ ?_) <;> intro h
      | refine clK_mk (s1) rfl ?_
      | refine clK_mk (t1) rfl ?_
      | refine clK_mk (p1) rfl ?_
      | simp only [go_sem, *])
def RInt.ok (x : RInt) : Prop := (digs x.p).length ≤ 400000 ∧ (digs x.n).length ≤ 400000
theorem zero_d (x : RInt) (h : x.ok) : DCall Tryz.prog 77 [x.tr] (.bool (decide (x.p = x.n))) := by
  have s1 := sameN_d x.pn x.nn x.p x.n (Nat.le_trans h.1 (by decide)) (Nat.le_trans h.2 (by decide))
  refine dcall_mk orders Tryz.func77 rfl (by kernel_rfl) noMu (by kernel_rfl) rfl (fun hs => ?_)
  clear hs h
  repeat' (first
    | (with_reducible first | refine sA ?_ ?_ | refine sB ?_ ?_ | refine sC ?_ ?_ | refine sD ?_ ?_ | refine sE ?_ ?_ | refine sF ?_ ?_) <;> intro h
    | refine clK_mk (s1) rfl ?_
    | simp only [go_sem, *])
theorem negative_d (x : RInt) (h : x.ok) : DCall Tryz.prog 31 [x.tr] (.bool (decide (x.p < x.n))) := by
  have s1 := lessN_d x.pn x.nn x.p x.n (Nat.le_trans h.1 (by decide)) (Nat.le_trans h.2 (by decide))
  refine dcall_mk orders Tryz.func31 rfl (by kernel_rfl) noMu (by kernel_rfl) rfl (fun hs => ?_)
  clear hs h
  repeat' (first
    | (with_reducible first | refine sA ?_ ?_ | refine sB ?_ ?_ | refine sC ?_ ?_ | refine sD ?_ ?_ | refine sE ?_ ?_ | refine sF ?_ ?_) <;> intro h
    | refine clK_mk (s1) rfl ?_
    | simp only [go_sem, *])
theorem most_d (x y : RInt) (hx : x.ok) (hy : y.ok) : DCall Tryz.prog 162 [x.tr, y.tr] (.bool (!decide (y.p + x.n < x.p + y.n))) := by
  have a1 := plusN_d y.pn x.nn y.p x.n (Nat.le_trans hy.1 (by decide)) (Nat.le_trans hx.2 (by decide))
  have a2 := plusN_d x.pn y.nn x.p y.n (Nat.le_trans hx.1 (by decide)) (Nat.le_trans hy.2 (by decide))
  have l1 := lessN_d (decide (y.p + x.n ≠ 0)) (decide (x.p + y.n ≠ 0)) (y.p + x.n) (x.p + y.n) (Nat.le_trans (len_add hy.1 hx.2) (by decide)) (Nat.le_trans (len_add hx.1 hy.2) (by decide))
  clear hx hy
  generalize hz1 : y.p + x.n = z1 at *
  generalize hz2 : x.p + y.n = z2 at *
  clear hz1 hz2
  generalize decide (z1 ≠ 0) = b1 at *
  generalize decide (z2 ≠ 0) = b2 at *
  refine dcall_mk orders Tryz.func162 rfl (by kernel_rfl) noMu (by kernel_rfl) rfl (fun hs => ?_)
  clear hs
  repeat' (first
    | (with_reducible first | refine sA ?_ ?_ | refine sB ?_ ?_ | refine sC ?_ ?_ | refine sD ?_ ?_ | refine sE ?_ ?_ | refine sF ?_ ?_) <;> intro h
    | refine clK_mk (a1) rfl ?_
    | refine clK_mk (a2) rfl ?_
    | refine clK_mk (l1) rfl ?_
    | simp only [go_sem, *])
end YtihgdplbehempaaGreat
end Go.Vm
end
section
set_option linter.unusedSimpArgs false
set_option maxRecDepth 10000
namespace Go.Vm
open Go Go.Proofs
namespace YtihgdplbehempaaGreat
open Go.Proofs.Tryz
attribute [go_sem] Tryz.results63 Tryz.results101 Tryz.results127 Tryz.results177 Tryz.results202 Tryz.results248 Tryz.results128 Tryz.results60 Tryz.results61 Tryz.results39 Tryz.results44 Tryz.results38
abbrev tInt : TypeId := 3
abbrev w64 (n : Int) : Int := IntKind.i64.wrap n
def evalGo : Int → List Int → List Int → Int
  | x, c :: cs, v :: vs => evalGo (w64 (x + w64 (c * v))) cs vs
  | x, _, _ => x
def evalR (r : Row) (vals : List Int) : Int := evalGo r.const r.coefs vals
theorem get_of_lt {α : Type} (l : List α) (k : Nat) (h : k < l.length) : ∃ v, l[k]? = some v ∧ l.drop k = v :: l.drop (k + 1) := ⟨l[k], List.getElem?_eq_getElem h, List.drop_eq_getElem_cons h⟩
def holdB (vals : List Int) (r : Row) : Bool := !decide (evalR r vals < 0)
def openB (s : State) (t : Trans) : Bool := (t.from_ == s.loc) && t.guard.all (holdB s.vals)
abbrev ints (l : List Int) : List Tr := l.map (Tr.int .i64)
structure GoodT (f : Flow) (t : Trans) : Prop where
  from1 : 0 ≤ t.from_
  from2 : t.from_ < f.locs
  to1 : 0 ≤ t.to_
  to2 : t.to_ < f.locs
  guard : t.guard.length ≤ 16
  right : ∀ r ∈ t.guard, rightB f.vars r = true
  next : (t.next.length : Int) = f.vars
  upd : ∀ u ∈ t.next, updB f.vars u = true
structure GoodF (f : Flow) : Prop where
  vars1 : 0 ≤ f.vars
  vars2 : f.vars ≤ 8
  locs : f.locs ≤ 16
  start1 : 0 ≤ f.start
  start2 : f.start < f.locs
  len : f.trans.length ≤ 32
  all : ∀ t ∈ f.trans, GoodT f t
structure Good (f : Flow) (s : State) : Prop where
  flow : GoodF f
  loc1 : 0 ≤ s.loc
  loc2 : s.loc < f.locs
  vals : (s.vals.length : Int) = f.vars
  word : ∀ v ∈ s.vals, wordB v = true
theorem goodT {f : Flow} {t : Trans} (h : transErr f t = 0) : GoodT f t := by
  unfold transErr at h
  split at h; · cases h
  rename_i h1
  split at h; · cases h
  rename_i h2
  split at h; · cases h
  rename_i h3
  split at h; · cases h
  rename_i h4
  split at h
  · rename_i h5
    simp at h1 h2 h3 h4 h5
    exact ⟨by omega, by omega, by omega, by omega, by omega, h3, h4, h5⟩
  · cases h
theorem goodGo {f : Flow} : ∀ {l : List Trans}, flowGo f l = 0 → ∀ t ∈ l, GoodT f t
  | [], _, t, ht => by simp at ht
  | x :: l, h, t, ht => by
    unfold flowGo at h
    split at h
    · rename_i h1; simp [h] at h1
    · rename_i h1
      simp at h1
      rcases List.mem_cons.1 ht with rfl | ht
      · exact goodT h1
      · exact goodGo h t ht
theorem goodF {f : Flow} (h : flowErr f = 0) : GoodF f := by
  unfold flowErr at h
  split at h; · cases h
  rename_i h1
  split at h; · cases h
  rename_i h2
  simp at h1 h2
  exact ⟨by omega, by omega, by omega, by omega, by omega, by omega, goodGo h⟩
theorem good {f : Flow} {s : State} (h : stateErr f s = 0) : Good f s := by
  unfold stateErr at h
  split at h; · rename_i h1; simp [h] at h1
  rename_i h1
  split at h; · cases h
  rename_i h2
  split at h; · cases h
  rename_i h3
  split at h
  · rename_i h4
    simp at h1 h2 h3 h4
    exact ⟨goodF h1, by omega, by omega, h3, h4⟩
  · cases h
theorem right_len {v : Int} {r : Row} (h : rightB v r = true) : (r.coefs.length : Int) = v := by simp [rightB] at h; exact h.1
end YtihgdplbehempaaGreat
end Go.Vm
end
