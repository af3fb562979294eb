/- Integers of any size: words, bits, division, the greatest common divisor. -/
import Derived.Test.YtajgclnahfmfmaaW3
set_option linter.unusedSimpArgs false
set_option maxRecDepth 10000
namespace Go.Vm
open Go Go.Proofs Go.Whole
namespace Ytajgclnahfmfmaa
open Go.Proofs.Try

attribute [go_sem] Try.results141 Try.results142 Try.results148 Try.results149 Try.results122 Try.results147 Try.results140

section
variable {P : Program} {h : Hp} (t : TypeId)
theorem ofInt_nat (w n : Nat) : BitVec.ofInt w (n : Int) = BitVec.ofNat w n := by
  apply BitVec.eq_of_toNat_eq; simp
theorem or_u64 {a b : Nat} (ha : a < 18446744073709551616) (hb : b < 18446744073709551616) : binPV P h .or t (.t (.int .u64 (a : Int))) (.t (.int .u64 (b : Int))) = some (.t (.int .u64 ((a ||| b : Nat) : Int))) := by
  rw [bin_or]
  have e1 : BitVec.ofInt IntKind.u64.bits (a : Int) = BitVec.ofNat 64 a := ofInt_nat 64 a
  have e2 : BitVec.ofInt IntKind.u64.bits (b : Int) = BitVec.ofNat 64 b := ofInt_nat 64 b
  rw [e1, e2]
  have e3 : (BitVec.ofNat 64 a ||| BitVec.ofNat 64 b).toNat = a ||| b := by
    rw [BitVec.toNat_or, BitVec.toNat_ofNat, BitVec.toNat_ofNat, Nat.mod_eq_of_lt ha, Nat.mod_eq_of_lt hb]
  have e4 : IntKind.u64.wrap (((BitVec.ofNat 64 a ||| BitVec.ofNat 64 b).toNat : Nat) : Int) = ((a ||| b : Nat) : Int) := by
    rw [e3]; exact wrap_u64_lt (Nat.or_lt_two_pow (n := 64) ha hb)
  exact congrArg (fun z => some (PV.t (.int .u64 z))) e4
theorem or_u32 {a b : Nat} (ha : a < B) (hb : b < B) : binPV P h .or t (.t (.int .u32 (a : Int))) (.t (.int .u32 (b : Int))) = some (.t (.int .u32 ((a ||| b : Nat) : Int))) := by
  rw [bin_or]
  have e1 : BitVec.ofInt IntKind.u32.bits (a : Int) = BitVec.ofNat 32 a := ofInt_nat 32 a
  have e2 : BitVec.ofInt IntKind.u32.bits (b : Int) = BitVec.ofNat 32 b := ofInt_nat 32 b
  rw [e1, e2]
  have e3 : (BitVec.ofNat 32 a ||| BitVec.ofNat 32 b).toNat = a ||| b := by
    rw [BitVec.toNat_or, BitVec.toNat_ofNat, BitVec.toNat_ofNat, Nat.mod_eq_of_lt (by rw [B_eq] at ha; omega), Nat.mod_eq_of_lt (by rw [B_eq] at hb; omega)]
  have e4 : IntKind.u32.wrap (((BitVec.ofNat 32 a ||| BitVec.ofNat 32 b).toNat : Nat) : Int) = ((a ||| b : Nat) : Int) := by
    rw [e3]; exact wrap_u32_lt (by rw [B_two] at ha hb ⊢; exact Nat.or_lt_two_pow ha hb)
  exact congrArg (fun z => some (PV.t (.int .u32 z))) e4
theorem and1_u32 {a : Nat} (ha : a < B) : binPV P h .and t (.t (.int .u32 (a : Int))) (.t (.int .u32 1)) = some (.t (.int .u32 ((a % 2 : Nat) : Int))) := by
  rw [bin_and]
  have e1 : BitVec.ofInt IntKind.u32.bits (a : Int) = BitVec.ofNat 32 a := ofInt_nat 32 a
  have e2 : BitVec.ofInt IntKind.u32.bits 1 = BitVec.ofNat 32 1 := ofInt_nat 32 1
  rw [e1, e2]
  have e3 : (BitVec.ofNat 32 a &&& BitVec.ofNat 32 1).toNat = a % 2 := by
    rw [BitVec.toNat_and, BitVec.toNat_ofNat, BitVec.toNat_ofNat, Nat.mod_eq_of_lt (by rw [B_eq] at ha; omega)]
    exact Nat.and_one_is_mod a
  have e4 : IntKind.u32.wrap (((BitVec.ofNat 32 a &&& BitVec.ofNat 32 1).toNat : Nat) : Int) = ((a % 2 : Nat) : Int) := by
    rw [e3]; exact wrap_u32_lt (by rw [B_eq]; omega)
  exact congrArg (fun z => some (PV.t (.int .u32 z))) e4
end

theorem wword_d (nn : Bool) (z : Int) (h2 : z.natAbs < 18446744073709551616) : DCall Try.prog 142 [encI nn z] (.int .u64 (z.natAbs : Int)) := by
  refine dcall_mk orders Try.func142 rfl (by kernel_rfl) noMu (by kernel_rfl) rfl (fun hs => ?_)
  clear hs
  unfold encI intC
  have hD := digs_ok z.natAbs
  have hl : (digs z.natAbs).length ≤ 2 := digs_length.2 (by rw [show B ^ 2 = 18446744073709551616 by decide]; exact h2)
  have hv := val_digs z.natAbs
  generalize hn : z.natAbs = n at *
  generalize digs n = D at *
  repeat' (first
    | with_reducible refine cdK_splitN (fun h => ?_) (fun h => ?_)
    | with_reducible refine gdK_splitTN (fun h => ?_) (fun h => ?_)
    | with_reducible refine gdK_splitFN (fun h => ?_) (fun h => ?_)
    | with_reducible refine cdK_split (fun h => ?_) (fun h => ?_)
    | with_reducible refine gdK_splitT (fun h => ?_) (fun h => ?_)
    | with_reducible refine gdK_splitF (fun h => ?_) (fun h => ?_)
    | simp only [go_sem, Nat.reduceBEq, Nat.reduceAdd, Nat.reduceMul, Nat.reduceSub, Nat.reduceLeDiff, Nat.reduceLT, Nat.reduceEqDiff, Int.reduceEq, Int.reduceBEq, Int.reduceBNe, Int.reduceLT, Int.reduceLE, *])
  refine loop_range D (fun k s' => s'.sl 3 = .t (.int .u64 ((val (D.take k) : Nat) : Int))) rfl rfl (by first | assumption | omega) (by kernel_rfl) (fun _ _ _ _ hj => hj) (fun _ _ _ hj => hj) ?_ (fun k x s' hx hd hk hJ hix hfr G hG => ?_) (fun s' hJ hfr => ?_)
  · rfl
  · have c7 := hfr 7 (by kernel_rfl)
    clear hfr
    simp only [go_sem, Nat.reduceBEq, Nat.reduceAdd, Nat.reduceMul, Nat.reduceSub, Nat.reduceLeDiff, Nat.reduceLT, Nat.reduceEqDiff, Int.reduceEq, Int.reduceBEq, Int.reduceBNe, Int.reduceLT, Int.reduceLE] at c7
    have hx' := hD x (List.mem_of_getElem? hx)
    have w2 := wrap_u64_lt (n := x) (by rw [B_eq] at hx'; omega)
    have e : val (D.take (k + 1)) = val (D.take k) + B ^ k * x := by
      rw [List.take_add_one, hx, val_append, List.length_take, Nat.min_eq_left (by omega)]
      simp [val]
    have hlt : val (D.take k) < B ^ k := by
      have := val_lt (okD_take hD k)
      rwa [List.length_take, Nat.min_eq_left (by omega)] at this
    have hk2 : k = 0 ∨ k = 1 := by omega
    rcases hk2 with rfl | rfl
    · have g1 : IntKind.i64.wrap (32 * ((0 : Nat) : Int)) = 0 := by decide
      have g2 : IntKind.u64.wrap ((x : Int) * 2 ^ (min 0 64)) = (x : Int) := by
        simpa using w2
      have g3 : val (D.take 0) = 0 := rfl
      rw [g3] at hJ
      have g4 := or_u64 (P := Try.prog) (h := s'.hp) 64 (a := 0) (b := x) (by decide) (by rw [B_eq] at hx'; omega)
      repeat' (first
        | with_reducible refine cdK_splitN (fun h => ?_) (fun h => ?_)
        | with_reducible refine gdK_splitTN (fun h => ?_) (fun h => ?_)
        | with_reducible refine gdK_splitFN (fun h => ?_) (fun h => ?_)
        | with_reducible refine cdK_split (fun h => ?_) (fun h => ?_)
        | with_reducible refine gdK_splitT (fun h => ?_) (fun h => ?_)
        | with_reducible refine gdK_splitF (fun h => ?_) (fun h => ?_)
        | simp only [go_sem, Nat.reduceBEq, Nat.reduceAdd, Nat.reduceMul, Nat.reduceSub, Nat.reduceLeDiff, Nat.reduceLT, Nat.reduceEqDiff, Int.reduceEq, Int.reduceBEq, Int.reduceBNe, Int.reduceLT, Int.reduceLE, *])
      refine hG _ ?_
      show _ = _
      simp only [go_sem, Nat.reduceBEq, Nat.reduceAdd, Nat.reduceMul, Nat.reduceSub, Nat.reduceLeDiff, Nat.reduceLT, Nat.reduceEqDiff, Int.reduceEq, Int.reduceBEq, Int.reduceBNe, Int.reduceLT, Int.reduceLE, e, Nat.pow_zero, Nat.one_mul, Nat.zero_add, Nat.zero_or]
      simp [val]
    · have g1 : IntKind.i64.wrap (32 * ((1 : Nat) : Int)) = 32 := by decide
      have g2 : IntKind.u64.wrap ((x : Int) * 2 ^ (min (Int.toNat 32) 64)) = ((x * 4294967296 : Nat) : Int) := by
        have : (x : Int) * 2 ^ (min (Int.toNat 32) 64) = ((x * 4294967296 : Nat) : Int) := by
          rw [show min (Int.toNat 32) 64 = 32 from rfl]; omega
        rw [this]; exact wrap_u64_lt (by rw [B_eq] at hx'; omega)
      have g4 := or_u64 (P := Try.prog) (h := s'.hp) 64 (a := val (D.take 1)) (b := x * 4294967296) (by rw [B_eq] at hlt; omega) (by rw [B_eq] at hx'; omega)
      have g5 : val (D.take 1) ||| x * 4294967296 = val (D.take 1) + B ^ 1 * x := by
        rw [Nat.or_comm, show x * 4294967296 = 2 ^ 32 * x by omega, ← Nat.two_pow_add_eq_or_of_lt (by rw [B_two] at hlt; simpa using hlt), B_two]; omega
      rw [g5] at g4
      repeat' (first
        | with_reducible refine cdK_splitN (fun h => ?_) (fun h => ?_)
        | with_reducible refine gdK_splitTN (fun h => ?_) (fun h => ?_)
        | with_reducible refine gdK_splitFN (fun h => ?_) (fun h => ?_)
        | with_reducible refine cdK_split (fun h => ?_) (fun h => ?_)
        | with_reducible refine gdK_splitT (fun h => ?_) (fun h => ?_)
        | with_reducible refine gdK_splitF (fun h => ?_) (fun h => ?_)
        | simp only [go_sem, Nat.reduceBEq, Nat.reduceAdd, Nat.reduceMul, Nat.reduceSub, Nat.reduceLeDiff, Nat.reduceLT, Nat.reduceEqDiff, Int.reduceEq, Int.reduceBEq, Int.reduceBNe, Int.reduceLT, Int.reduceLE, *])
  · rw [List.take_length, hv] at hJ
    repeat' (first
      | with_reducible refine cdK_splitN (fun h => ?_) (fun h => ?_)
      | with_reducible refine gdK_splitTN (fun h => ?_) (fun h => ?_)
      | with_reducible refine gdK_splitFN (fun h => ?_) (fun h => ?_)
      | with_reducible refine cdK_split (fun h => ?_) (fun h => ?_)
      | with_reducible refine gdK_splitT (fun h => ?_) (fun h => ?_)
      | with_reducible refine gdK_splitF (fun h => ?_) (fun h => ?_)
      | simp only [go_sem, Nat.reduceBEq, Nat.reduceAdd, Nat.reduceMul, Nat.reduceSub, Nat.reduceLeDiff, Nat.reduceLT, Nat.reduceEqDiff, Int.reduceEq, Int.reduceBEq, Int.reduceBNe, Int.reduceLT, Int.reduceLE, *])

theorem bit_d (nn : Bool) (z : Int) (hz : fits z) (i : Nat) (hi : i < 32 * (digs z.natAbs).length) : DCall Try.prog 149 [encI nn z, i64 i] (u32 (z.natAbs / 2 ^ i % 2)) := by
  refine dcall_mk orders Try.func149 rfl (by kernel_rfl) noMu (by kernel_rfl) rfl (fun hs => ?_)
  clear hs
  have hD := digs_ok z.natAbs
  have hz' : (digs z.natAbs).length ≤ 1000000 := hz.le
  have hb := bit_val hD i
  rw [val_digs] at hb
  rw [← hb]
  have hlt : i / 32 < (digs z.natAbs).length := by omega
  have hdB : (digs z.natAbs).getD (i / 32) 0 < B := by rw [getD_val hD]; exact mod_B _
  have hg : (digs z.natAbs)[i / 32]? = some ((digs z.natAbs).getD (i / 32) 0) := by rw [List.getD_eq_getElem?_getD, List.getElem?_eq_getElem hlt]; rfl
  clear hb hz
  generalize (digs z.natAbs).getD (i / 32) 0 = u at *
  unfold encI intC
  generalize digs z.natAbs = D at *
  have g1 : IntKind.i64.wrap ((i : Int).tdiv 32) = ((i / 32 : Nat) : Int) := by
    rw [show (i : Int).tdiv 32 = ((i / 32 : Nat) : Int) by rw [Int.tdiv_eq_ediv_of_nonneg (by omega)]; omega]
    exact wrap_i64 (by omega) (by omega)
  have g2 : (i : Int).tmod 32 = ((i % 32 : Nat) : Int) := by rw [Int.tmod_eq_emod_of_nonneg (by omega)]; omega
  have g3 : (u : Int).fdiv (2 ^ (min (i % 32) 32)) = ((u / 2 ^ (i % 32) : Nat) : Int) := by
    rw [shr_nat, Nat.min_eq_left (by omega)]
  have g4 : (((i % 32 : Nat) : Int) < 0) ↔ False := by simp; omega
  have g5 := and1_u32 (P := Try.prog) (h := fun _ => []) 145 (a := u / 2 ^ (i % 32)) (Nat.lt_of_le_of_lt (Nat.div_le_self _ _) hdB)
  repeat' (first
    | with_reducible refine cdK_splitN (fun h => ?_) (fun h => ?_)
    | with_reducible refine gdK_splitTN (fun h => ?_) (fun h => ?_)
    | with_reducible refine gdK_splitFN (fun h => ?_) (fun h => ?_)
    | with_reducible refine cdK_split (fun h => ?_) (fun h => ?_)
    | with_reducible refine gdK_splitT (fun h => ?_) (fun h => ?_)
    | with_reducible refine gdK_splitF (fun h => ?_) (fun h => ?_)
    | simp only [go_sem, Nat.reduceBEq, Nat.reduceAdd, Nat.reduceMul, Nat.reduceSub, Nat.reduceLeDiff, Nat.reduceLT, Nat.reduceEqDiff, Int.reduceEq, Int.reduceBEq, Int.reduceBNe, Int.reduceLT, Int.reduceLE, *])

theorem dbl_or {x c : Nat} (hc : c ≤ 1) : (x * 2 % B) ||| c = x * 2 % B + c := by
  have e : x * 2 % B = 2 ^ 1 * (x % 2147483648) := by rw [B_eq]; omega
  rw [e, ← Nat.two_pow_add_eq_or_of_lt (by omega)]
theorem shift_d (nn : Bool) (d : List Nat) (bit : Nat) (hd0 : okD d) (hbit : bit ≤ 1) (hl : d.length ≤ 1000000) : DCall Try.prog 148 [.sl nn (dl d), u32 bit] (.sl true (dl (digs (2 * val d + bit)))) := by
  obtain ⟨r1, r2, r3⟩ := shiftL_spec hd0 hbit
  have ht := trim_d true _ false r2
  rw [r1] at ht
  simp only [Bool.false_eq_true, if_false] at ht
  have hna : ((2 * val d + bit : Nat) : Int).natAbs = 2 * val d + bit := by omega
  generalize hz : 2 * val d + bit = z at *
  clear r1 r2 r3 hz
  refine dcall_mk orders Try.func148 rfl (by kernel_rfl) (fun d => d == 11) (by kernel_rfl) rfl (fun hs => ?_)
  clear hs
  obtain ⟨L, hL⟩ : ∃ L, L = d.length + 1 := ⟨_, rfl⟩
  have f1 : IntKind.i64.wrap ((d.length : Int) + 1) = (L : Int) := by rw [hL]; exact wrap_succ (by omega)
  have hL1 : L ≤ d.length + 1 := by omega
  have hL2 : d.length + 1 ≤ L := by omega
  clear hL
  repeat' (first
    | with_reducible refine cdK_splitN (fun h => ?_) (fun h => ?_)
    | with_reducible refine gdK_splitTN (fun h => ?_) (fun h => ?_)
    | with_reducible refine gdK_splitFN (fun h => ?_) (fun h => ?_)
    | with_reducible refine cdK_split (fun h => ?_) (fun h => ?_)
    | with_reducible refine gdK_splitT (fun h => ?_) (fun h => ?_)
    | with_reducible refine gdK_splitF (fun h => ?_) (fun h => ?_)
    | simp only [go_sem, Nat.reduceBEq, Nat.reduceAdd, Nat.reduceMul, Nat.reduceSub, Nat.reduceLeDiff, Nat.reduceLT, Nat.reduceEqDiff, Int.reduceEq, Int.reduceBEq, Int.reduceBNe, Int.reduceLT, Int.reduceLE, *])
  refine hpK_if ⟨by omega, by omega⟩ ?_
  repeat' (first
    | with_reducible refine cdK_splitN (fun h => ?_) (fun h => ?_)
    | with_reducible refine gdK_splitTN (fun h => ?_) (fun h => ?_)
    | with_reducible refine gdK_splitFN (fun h => ?_) (fun h => ?_)
    | with_reducible refine cdK_split (fun h => ?_) (fun h => ?_)
    | with_reducible refine gdK_splitT (fun h => ?_) (fun h => ?_)
    | with_reducible refine gdK_splitF (fun h => ?_) (fun h => ?_)
    | simp only [go_sem, Nat.reduceBEq, Nat.reduceAdd, Nat.reduceMul, Nat.reduceSub, Nat.reduceLeDiff, Nat.reduceLT, Nat.reduceEqDiff, Int.reduceEq, Int.reduceBEq, Int.reduceBNe, Int.reduceLT, Int.reduceLE, *])
  refine loop_range d (fun k s' => ∃ (cur : List Nat) (c : Nat), s'.sl 1 = .t (u32 c) ∧ hget s'.hp (11, 0) = some ⟨(dl cur).map .t, 1, L, tU32, false, true⟩ ∧ cur.length = L ∧ c ≤ 1 ∧ shiftL d bit = cur.take k ++ shiftL (d.drop k) c) rfl rfl (by first | assumption | omega) (by kernel_rfl) (fun _ _ _ _ hj => hj) (fun _ _ _ hj => hj) ?_ (fun k x s' hx hd hk hJ hix hfr G hG => ?_) (fun s' hJ hfr => ?_)
  · exact ⟨List.replicate L 0, bit, rfl, rfl, by simp, hbit, by simp⟩
  · have c5 := hfr 5 (by kernel_rfl)
    have c12 := hfr 12 (by kernel_rfl)
    clear hfr
    simp only [go_sem, Nat.reduceBEq, Nat.reduceAdd, Nat.reduceMul, Nat.reduceSub, Nat.reduceLeDiff, Nat.reduceLT, Nat.reduceEqDiff, Int.reduceEq, Int.reduceBEq, Int.reduceBNe, Int.reduceLT, Int.reduceLE] at c5 c12
    change _ = PV.rf (11, 0) L at c5
    obtain ⟨cur, c, h1, h11, hcl, hc, hJ⟩ := hJ
    have hxB := hd0 x (List.mem_of_getElem? hx)
    have hkc : k < cur.length := by omega
    have hkN : k < L := by omega
    have hkN1 : k + 1 ≤ L := hkN
    rw [hd, shiftL] at hJ
    have g1 : IntKind.u32.wrap ((x : Int) * 2 ^ (min (Int.toNat 1) 32)) = ((x * 2 % B : Nat) : Int) := by
      rw [show (x : Int) * 2 ^ (min (Int.toNat 1) 32) = ((x * 2 : Nat) : Int) by rw [show min (Int.toNat 1) 32 = 1 from rfl]; omega, wrap_u32]
    have g2 := or_u32 (P := Try.prog) (h := s'.hp) 145 (a := x * 2 % B) (b := c) (mod_B _) (by rw [B_eq]; omega)
    rw [dbl_or hc] at g2
    have g3 : x / 2147483648 = x / 2 ^ 31 := rfl
    repeat' (first
      | with_reducible refine cdK_splitN (fun h => ?_) (fun h => ?_)
      | with_reducible refine gdK_splitTN (fun h => ?_) (fun h => ?_)
      | with_reducible refine gdK_splitFN (fun h => ?_) (fun h => ?_)
      | with_reducible refine cdK_split (fun h => ?_) (fun h => ?_)
      | with_reducible refine gdK_splitT (fun h => ?_) (fun h => ?_)
      | with_reducible refine gdK_splitF (fun h => ?_) (fun h => ?_)
      | simp only [go_sem, Nat.reduceBEq, Nat.reduceAdd, Nat.reduceMul, Nat.reduceSub, Nat.reduceLeDiff, Nat.reduceLT, Nat.reduceEqDiff, Int.reduceEq, Int.reduceBEq, Int.reduceBNe, Int.reduceLT, Int.reduceLE, *])
    refine hG _ ⟨cur.set k (x * 2 % B + c), x / 2 ^ 31, rfl, ?_, by simp [hcl], by rw [B_eq] at hxB; omega, ?_⟩
    · simp only [go_sem, Nat.reduceBEq, Nat.reduceAdd, Nat.reduceMul, Nat.reduceSub, Nat.reduceLeDiff, Nat.reduceLT, Nat.reduceEqDiff, Int.reduceEq, Int.reduceBEq, Int.reduceBNe, Int.reduceLT, Int.reduceLE, h11]
    · rw [take_set_succ _ _ _ hkc, hJ]; simp
  · obtain ⟨cur, c, h1, h11, hcl, hc, hJ⟩ := hJ
    have c0 := hfr 0 (by kernel_rfl)
    have c5 := hfr 5 (by kernel_rfl)
    clear hfr
    simp only [go_sem, Nat.reduceBEq, Nat.reduceAdd, Nat.reduceMul, Nat.reduceSub, Nat.reduceLeDiff, Nat.reduceLT, Nat.reduceEqDiff, Int.reduceEq, Int.reduceBEq, Int.reduceBNe, Int.reduceLT, Int.reduceLE] at c0 c5
    change _ = PV.rf (11, 0) L at c5
    have hkN : d.length < L := by omega
    have hkc : d.length < cur.length := by omega
    rw [List.drop_length, shiftL] at hJ
    have e : cur.set d.length c = cur.take d.length ++ [c] := by
      have := take_set_succ cur d.length c hkc
      rw [← this, List.take_of_length_le (by simp; omega)]
    rw [hJ, ← e] at ht
    clear hJ e
    have hdep := toTr_set (l := dl (cur.set d.length c)) (esz := 1) (n := L) (e := tU32) (lv := true) h11
    repeat' (first
      | with_reducible refine cdK_splitN (fun h => ?_) (fun h => ?_)
      | with_reducible refine gdK_splitTN (fun h => ?_) (fun h => ?_)
      | with_reducible refine gdK_splitFN (fun h => ?_) (fun h => ?_)
      | with_reducible refine cdK_split (fun h => ?_) (fun h => ?_)
      | with_reducible refine gdK_splitT (fun h => ?_) (fun h => ?_)
      | with_reducible refine gdK_splitF (fun h => ?_) (fun h => ?_)
      | simp only [go_sem, Nat.reduceBEq, Nat.reduceAdd, Nat.reduceMul, Nat.reduceSub, Nat.reduceLeDiff, Nat.reduceLT, Nat.reduceEqDiff, Int.reduceEq, Int.reduceBEq, Int.reduceBNe, Int.reduceLT, Int.reduceLE, *])
    refine clK_fz ht (by simp only [go_sem, Nat.reduceBEq, Nat.reduceAdd, Nat.reduceMul, Nat.reduceSub, Nat.reduceLeDiff, Nat.reduceLT, Nat.reduceEqDiff, Int.reduceEq, Int.reduceBEq, Int.reduceBNe, Int.reduceLT, Int.reduceLE, hdep]) rfl ?_
    repeat' (first
      | with_reducible refine cdK_splitN (fun h => ?_) (fun h => ?_)
      | with_reducible refine gdK_splitTN (fun h => ?_) (fun h => ?_)
      | with_reducible refine gdK_splitFN (fun h => ?_) (fun h => ?_)
      | with_reducible refine cdK_split (fun h => ?_) (fun h => ?_)
      | with_reducible refine gdK_splitT (fun h => ?_) (fun h => ?_)
      | with_reducible refine gdK_splitF (fun h => ?_) (fun h => ?_)
      | simp only [go_sem, Nat.reduceBEq, Nat.reduceAdd, Nat.reduceMul, Nat.reduceSub, Nat.reduceLeDiff, Nat.reduceLT, Nat.reduceEqDiff, Int.reduceEq, Int.reduceBEq, Int.reduceBNe, Int.reduceLT, Int.reduceLE, *])

/-! division -/
theorem from_nat (n : Nat) (hn : n < 18446744073709551616) : DCall Try.prog 70 [.int .u64 n] (.agg [.sl true (dl (digs n)), .bool false]) := by
  have := from_d n hn
  unfold encI intC at this
  rw [show ((n : Int)).natAbs = n by omega, show decide ((n : Int) < 0) = false from decide_eq_false (by omega)] at this
  exact this
theorem tdiv_sign (x y : Int) : (if (decide (x < 0) != decide (y < 0)) = true then -((x.natAbs / y.natAbs : Nat) : Int) else ((x.natAbs / y.natAbs : Nat) : Int)) = x.tdiv y := by
  have key : ∀ a b : Nat, ((a : Int)).tdiv (b : Int) = ((a / b : Nat) : Int) := fun _ _ => rfl
  by_cases h1 : x < 0
  · obtain ⟨a, rfl⟩ : ∃ a : Nat, x = -(a : Int) := ⟨x.natAbs, by omega⟩
    by_cases h2 : y < 0
    · obtain ⟨b, rfl⟩ : ∃ b : Nat, y = -(b : Int) := ⟨y.natAbs, by omega⟩
      rw [decide_eq_true h1, decide_eq_true h2, Int.neg_tdiv, Int.tdiv_neg, key]; simp
    · obtain ⟨b, rfl⟩ : ∃ b : Nat, y = (b : Int) := ⟨y.natAbs, by omega⟩
      rw [decide_eq_true h1, decide_eq_false h2, Int.neg_tdiv, key]; simp
  · obtain ⟨a, rfl⟩ : ∃ a : Nat, x = (a : Int) := ⟨x.natAbs, by omega⟩
    by_cases h2 : y < 0
    · obtain ⟨b, rfl⟩ : ∃ b : Nat, y = -(b : Int) := ⟨y.natAbs, by omega⟩
      rw [decide_eq_false h1, decide_eq_true h2, Int.tdiv_neg, key]; simp
    · obtain ⟨b, rfl⟩ : ∃ b : Nat, y = (b : Int) := ⟨y.natAbs, by omega⟩
      rw [decide_eq_false h1, decide_eq_false h2, key]; simp
theorem tmod_sign (x y : Int) : (if decide (x < 0) = true then -((x.natAbs % y.natAbs : Nat) : Int) else ((x.natAbs % y.natAbs : Nat) : Int)) = x.tmod y := by
  have key : ∀ a b : Nat, ((a : Int)).tmod (b : Int) = ((a % b : Nat) : Int) := fun _ _ => rfl
  obtain ⟨b, hb⟩ : ∃ b : Nat, b = y.natAbs := ⟨_, rfl⟩
  have hy : x.tmod y = x.tmod (b : Int) := by
    rcases Int.natAbs_eq y with h | h
    · rw [hb, ← h]
    · rw [hb]; conv => lhs; rw [h, Int.tmod_neg]
  rw [hy, ← hb]
  by_cases h1 : x < 0
  · obtain ⟨a, rfl⟩ : ∃ a : Nat, x = -(a : Int) := ⟨x.natAbs, by omega⟩
    rw [decide_eq_true h1, Int.neg_tmod, key]; simp
  · obtain ⟨a, rfl⟩ : ∃ a : Nat, x = (a : Int) := ⟨x.natAbs, by omega⟩
    rw [decide_eq_false h1, key]; simp
theorem div_small (xn yn : Bool) (x y : Int) (hx2 : (digs x.natAbs).length ≤ 2) (hy2 : (digs y.natAbs).length ≤ 2) (hy0 : y ≠ 0) : DCall Try.prog 141 [encI xn x, encI yn y] (.tup [encI true (x.tdiv y), encI true (x.tmod y)]) := by
  refine dcall_mk orders Try.func141 rfl (by kernel_rfl) (fun d => d == 4 || d == 5 || d == 8 || d == 9 || d == 35 || d == 43 || d == 51 || d == 78 || d == 81 || d == 87 || d == 94) (by kernel_rfl) rfl (fun hs => ?_)
  clear hs
  have hX : x.natAbs < 18446744073709551616 := by have := lt_of_digs_length hx2; rwa [show B ^ 2 = 18446744073709551616 by decide] at this
  have hY : y.natAbs < 18446744073709551616 := by have := lt_of_digs_length hy2; rwa [show B ^ 2 = 18446744073709551616 by decide] at this
  have f1 : decide (((digs x.natAbs).length : Int) ≤ 2) = true := decide_eq_true (by omega)
  have f2 : decide (((digs y.natAbs).length : Int) ≤ 2) = true := decide_eq_true (by omega)
  have f3 : ((y.natAbs : Nat) : Int) = 0 ↔ False := by simp; omega
  have f4 : IntKind.u64.wrap ((x.natAbs : Int).tdiv (y.natAbs : Int)) = ((x.natAbs / y.natAbs : Nat) : Int) := by
    rw [show (x.natAbs : Int).tdiv (y.natAbs : Int) = ((x.natAbs / y.natAbs : Nat) : Int) from rfl]
    exact wrap_u64_lt (Nat.lt_of_le_of_lt (Nat.div_le_self _ _) hX)
  have f5 : (x.natAbs : Int).tmod (y.natAbs : Int) = ((x.natAbs % y.natAbs : Nat) : Int) := rfl
  have hq := from_nat (x.natAbs / y.natAbs) (Nat.lt_of_le_of_lt (Nat.div_le_self _ _) hX)
  have hr := from_nat (x.natAbs % y.natAbs) (Nat.lt_of_le_of_lt (Nat.mod_le _ _) hX)
  have t1 := trim_d true (digs (x.natAbs / y.natAbs)) (decide (x < 0) != decide (y < 0)) (digs_ok _)
  rw [val_digs, tdiv_sign] at t1
  have t2 := trim_d true (digs (x.natAbs % y.natAbs)) (decide (x < 0)) (digs_ok _)
  rw [val_digs, tmod_sign] at t2
  have w1 := wword_d xn x hX
  have w2 := wword_d yn y hY
  generalize x.tdiv y = q at *
  generalize x.tmod y = r at *
  clear hx2 hy2
  repeat' (first
    | with_reducible refine cdK_splitN (fun h => ?_) (fun h => ?_)
    | with_reducible refine gdK_splitTN (fun h => ?_) (fun h => ?_)
    | with_reducible refine gdK_splitFN (fun h => ?_) (fun h => ?_)
    | with_reducible refine cdK_split (fun h => ?_) (fun h => ?_)
    | with_reducible refine gdK_splitT (fun h => ?_) (fun h => ?_)
    | with_reducible refine gdK_splitF (fun h => ?_) (fun h => ?_)
    | refine clK_mk (w1) rfl ?_
    | refine clK_mk (w2) rfl ?_
    | refine clK_mk (hq) rfl ?_
    | refine clK_mk (hr) rfl ?_
    | refine clK_mk (t1) rfl ?_
    | refine clK_mk (t2) rfl ?_
    | simp only [go_sem, Nat.reduceBEq, Nat.reduceAdd, Nat.reduceMul, Nat.reduceSub, Nat.reduceLeDiff, Nat.reduceLT, Nat.reduceEqDiff, Int.reduceEq, Int.reduceBEq, Int.reduceBNe, Int.reduceLT, Int.reduceLE, *])

theorem digs_dbl {r b n : Nat} (h : r ≤ 2 * b) (hb : (digs b).length ≤ n) : (digs r).length ≤ n + 1 := digs_length_le (by
  rw [Nat.pow_succ]
  have h1 := lt_of_digs_length hb
  have h2 : B ^ n * 2 ≤ B ^ n * B := Nat.mul_le_mul_left _ (by decide)
  omega)
theorem div_big (xn yn : Bool) (x y : Int) (hx : fits x) (hy : fits y) (hb : ¬ ((digs x.natAbs).length ≤ 2 ∧ (digs y.natAbs).length ≤ 2)) (hy0 : y ≠ 0) : DCall Try.prog 141 [encI xn x, encI yn y] (.tup [encI true (x.tdiv y), encI true (x.tmod y)]) := by
  refine dcall_mk orders Try.func141 rfl (by kernel_rfl) (fun d => d == 4 || d == 5 || d == 8 || d == 9 || d == 35 || d == 43 || d == 51 || d == 78 || d == 81 || d == 87 || d == 94) (by kernel_rfl) rfl (fun hs => ?_)
  clear hs
  have hx' : (digs x.natAbs).length ≤ 400000 := hx
  have hy' : (digs y.natAbs).length ≤ 400000 := hy
  have f0 : (decide (((digs x.natAbs).length : Int) ≤ 2) = true → decide (((digs y.natAbs).length : Int) ≤ 2) = false) := fun h => decide_eq_false (fun h2 => hb ⟨by have := of_decide_eq_true h; omega, by omega⟩)
  have f2 : IntKind.i64.wrap (32 * ((digs x.natAbs).length : Int)) = 32 * ((digs x.natAbs).length : Int) := wrap_i64 (by omega) (by omega)
  have f3 : IntKind.i64.wrap (32 * ((digs x.natAbs).length : Int) - 1) = ((32 * (digs x.natAbs).length : Nat) : Int) - 1 := by rw [wrap_i64 (by omega) (by omega)]; omega
  have t1 := fun l (h : okD l) => trim_d true l (decide (x < 0) != decide (y < 0)) h
  have t2 := trim_d true (digs (x.natAbs % y.natAbs)) (decide (x < 0)) (digs_ok _)
  rw [val_digs, tmod_sign] at t2
  have hX0 : x.natAbs / 2 ^ (32 * (digs x.natAbs).length) = 0 := by
    refine Nat.div_eq_of_lt ?_
    have := lt_of_digs_length (Nat.le_refl (digs x.natAbs).length)
    rwa [B_two, ← Nat.pow_mul] at this
  have hcmp := fun r (hr : (digs r).length ≤ 1000000) => compare_d true yn (digs r) (digs y.natAbs) (digs_ok _) (digs_ok _) hr hy.le
  have hbit := fun i hi => bit_d xn x hx i hi
  have hq0 : 0 < y.natAbs := by omega
  unfold encI intC at hbit
  by_cases hc : decide (((digs x.natAbs).length : Int) ≤ 2) = true
  case' pos => have f1 := f0 hc
  all_goals
    clear f0 hb
    repeat' (first
      | with_reducible refine cdK_splitN (fun h => ?_) (fun h => ?_)
      | with_reducible refine gdK_splitTN (fun h => ?_) (fun h => ?_)
      | with_reducible refine gdK_splitFN (fun h => ?_) (fun h => ?_)
      | with_reducible refine cdK_split (fun h => ?_) (fun h => ?_)
      | with_reducible refine gdK_splitT (fun h => ?_) (fun h => ?_)
      | with_reducible refine gdK_splitF (fun h => ?_) (fun h => ?_)
      | simp only [go_sem, Nat.reduceBEq, Nat.reduceAdd, Nat.reduceMul, Nat.reduceSub, Nat.reduceLeDiff, Nat.reduceLT, Nat.reduceEqDiff, Int.reduceEq, Int.reduceBEq, Int.reduceBNe, Int.reduceLT, Int.reduceLE, *])
    refine hpK_if ⟨by omega, by omega⟩ ?_
    repeat' (first
      | with_reducible refine cdK_splitN (fun h => ?_) (fun h => ?_)
      | with_reducible refine gdK_splitTN (fun h => ?_) (fun h => ?_)
      | with_reducible refine gdK_splitFN (fun h => ?_) (fun h => ?_)
      | with_reducible refine cdK_split (fun h => ?_) (fun h => ?_)
      | with_reducible refine gdK_splitT (fun h => ?_) (fun h => ?_)
      | with_reducible refine gdK_splitF (fun h => ?_) (fun h => ?_)
      | simp only [go_sem, Nat.reduceBEq, Nat.reduceAdd, Nat.reduceMul, Nat.reduceSub, Nat.reduceLeDiff, Nat.reduceLT, Nat.reduceEqDiff, Int.reduceEq, Int.reduceBEq, Int.reduceBNe, Int.reduceLT, Int.reduceLE, *])
    refine loop_mk (fun m s' => ∃ (i : Nat) (q : List Nat), m = i ∧ i ≤ 32 * (digs x.natAbs).length ∧ s'.sl 12 = .t (i64 ((i : Int) - 1)) ∧ s'.sl 11 = .t (.sl true (dl (digs (x.natAbs / 2 ^ i % y.natAbs)))) ∧ hget s'.hp (51, 0) = some ⟨(dl q).map .t, 1, (digs x.natAbs).length, tU32, false, true⟩ ∧
      hget s'.hp (4, 0) = some ⟨[.t (.sl false []), .t (.bool false)], 2, 1, tWInt, true, true⟩ ∧ hget s'.hp (5, 0) = some ⟨[.t (.sl false []), .t (.bool false)], 2, 1, tWInt, true, true⟩ ∧ q.length = (digs x.natAbs).length ∧ okD q ∧ val q = x.natAbs / 2 ^ i / y.natAbs * 2 ^ i) (32 * (digs x.natAbs).length)
      ⟨32 * (digs x.natAbs).length, List.replicate (digs x.natAbs).length 0, rfl, Nat.le_refl _, rfl, by rw [hX0, Nat.zero_mod, digs_zero]; rfl, rfl, rfl, rfl, by simp, okD_zeros _, by rw [val_zeros, hX0]; simp⟩ ?_
    rintro i s' ⟨_, q, rfl, hi, h12, h11, h51, h4, h5, hql, hqo, hqv⟩ hfr G hG
    have c2 := hfr 2 (by kernel_rfl)
    have c3 := hfr 3 (by kernel_rfl)
    have c4 := hfr 4 (by kernel_rfl)
    have c5 := hfr 5 (by kernel_rfl)
    have c10 := hfr 10 (by kernel_rfl)
    clear hfr
    simp only [go_sem, Nat.reduceBEq, Nat.reduceAdd, Nat.reduceMul, Nat.reduceSub, Nat.reduceLeDiff, Nat.reduceLT, Nat.reduceEqDiff, Int.reduceEq, Int.reduceBEq, Int.reduceBNe, Int.reduceLT, Int.reduceLE] at c2 c3 c4 c5 c10
    change _ = PV.rf (51, 0) (digs x.natAbs).length at c10
    change _ = PV.ad (4, 0) 1 0 at c4
    change _ = PV.ad (5, 0) 1 0 at c5
    cases i with
    | zero =>
      have g1 : decide ((((0 : Nat) : Int) - 1) ≥ 0) = false := rfl
      rw [Nat.pow_zero, Nat.div_one] at h11 hqv
      rw [Nat.mul_one] at hqv
      have t1 := t1 q hqo
      rw [hqv, tdiv_sign] at t1
      have hdep := toTr_ints 5 h51
      change toTr s'.hp dep _ = _ at hdep
      have hz4 := frz_row (m := (digs x.natAbs).length) h51 h4 rfl
      have hz5 := frz_row (m := (digs x.natAbs).length) h51 h5 rfl
      clear hcmp hbit hqv
      repeat' (first
        | with_reducible refine cdK_splitN (fun h => ?_) (fun h => ?_)
        | with_reducible refine gdK_splitTN (fun h => ?_) (fun h => ?_)
        | with_reducible refine gdK_splitFN (fun h => ?_) (fun h => ?_)
        | with_reducible refine cdK_split (fun h => ?_) (fun h => ?_)
        | with_reducible refine gdK_splitT (fun h => ?_) (fun h => ?_)
        | with_reducible refine gdK_splitF (fun h => ?_) (fun h => ?_)
        | simp only [go_sem, Nat.reduceBEq, Nat.reduceAdd, Nat.reduceMul, Nat.reduceSub, Nat.reduceLeDiff, Nat.reduceLT, Nat.reduceEqDiff, Int.reduceEq, Int.reduceBEq, Int.reduceBNe, Int.reduceLT, Int.reduceLE, *])
      refine clK_fx t1 (by simp only [go_sem, Nat.reduceBEq, Nat.reduceAdd, Nat.reduceMul, Nat.reduceSub, Nat.reduceLeDiff, Nat.reduceLT, Nat.reduceEqDiff, Int.reduceEq, Int.reduceBEq, Int.reduceBNe, Int.reduceLT, Int.reduceLE, hdep]) rfl ?_
      repeat' (first
        | with_reducible refine cdK_splitN (fun h => ?_) (fun h => ?_)
        | with_reducible refine gdK_splitTN (fun h => ?_) (fun h => ?_)
        | with_reducible refine gdK_splitFN (fun h => ?_) (fun h => ?_)
        | with_reducible refine cdK_split (fun h => ?_) (fun h => ?_)
        | with_reducible refine gdK_splitT (fun h => ?_) (fun h => ?_)
        | with_reducible refine gdK_splitF (fun h => ?_) (fun h => ?_)
        | refine clK_mk (t2) rfl ?_
        | simp only [go_sem, Nat.reduceBEq, Nat.reduceAdd, Nat.reduceMul, Nat.reduceSub, Nat.reduceLeDiff, Nat.reduceLT, Nat.reduceEqDiff, Int.reduceEq, Int.reduceBEq, Int.reduceBNe, Int.reduceLT, Int.reduceLE, *])
    | succ j =>
      have e0 : (((j + 1 : Nat) : Int) - 1) = (j : Int) := by omega
      rw [e0] at h12
      have hj : j < 32 * (digs x.natAbs).length := by omega
      have g1 : decide (((j : Nat) : Int) ≥ 0) = true := by simp
      have hbj := hbit j hj
      obtain ⟨d1, d2⟩ := div_step x.natAbs y.natAbs j hq0
      have hlenR : (digs (x.natAbs / 2 ^ (j + 1) % y.natAbs)).length ≤ 400000 := Nat.le_trans (digs_length_mono (Nat.le_of_lt (Nat.mod_lt _ hq0))) hy'
      have hsh := shift_d true (digs (x.natAbs / 2 ^ (j + 1) % y.natAbs)) (x.natAbs / 2 ^ j % 2) (digs_ok _) (by omega) (by omega)
      rw [val_digs] at hsh
      have hRl : (digs (2 * (x.natAbs / 2 ^ (j + 1) % y.natAbs) + x.natAbs / 2 ^ j % 2)).length ≤ 400000 + 1 := digs_dbl (b := y.natAbs) (by have := Nat.mod_lt (x.natAbs / 2 ^ (j + 1)) hq0; omega) hy'
      have g5 : IntKind.i64.wrap ((j : Int) - 1) = (j : Int) - 1 := wrap_i64 (by omega) (by omega)
      have hmulti : val q % 2 ^ (j + 1) = 0 := by rw [hqv]; exact Nat.mul_mod_left _ _
      have hjq : j / 32 < q.length := by omega
      obtain ⟨q1, q2⟩ := quot_set hqo hmulti hjq
      have hroom := digit_room hqo hmulti
      have hu1 : q.getD (j / 32) 0 < B := Nat.lt_of_le_of_lt (Nat.le_add_right _ _) hroom
      have hp1 : 2 ^ (j % 32) < B := Nat.lt_of_le_of_lt (Nat.le_add_left _ _) hroom
      have horB : q.getD (j / 32) 0 ||| 2 ^ (j % 32) = q.getD (j / 32) 0 + 2 ^ (j % 32) := or_bit (digit_low hqo hmulti)
      have hqget : q[j / 32]? = some (q.getD (j / 32) 0) := by rw [List.getD_eq_getElem?_getD, List.getElem?_eq_getElem hjq]; rfl
      have e2 : x.natAbs / 2 ^ (j + 1) / y.natAbs * 2 ^ (j + 1) = 2 * (x.natAbs / 2 ^ (j + 1) / y.natAbs) * 2 ^ j := by rw [Nat.pow_succ]; rw [Nat.mul_comm 2, Nat.mul_assoc, Nat.mul_comm 2]
      rw [hqv, e2] at q2
      rw [e2] at hqv
      generalize hQ1 : x.natAbs / 2 ^ j / y.natAbs = Q1 at *
      generalize hR1 : x.natAbs / 2 ^ j % y.natAbs = R1 at *
      generalize x.natAbs / 2 ^ (j + 1) / y.natAbs = Q0 at *
      generalize 2 * (x.natAbs / 2 ^ (j + 1) % y.natAbs) + x.natAbs / 2 ^ j % 2 = R0 at *
      generalize x.natAbs / 2 ^ (j + 1) % y.natAbs = R00 at *
      generalize x.natAbs / 2 ^ j % 2 = bt at *
      have hc1 := hcmp R0 (by omega)
      by_cases hR : y.natAbs ≤ R0
      · rw [if_pos hR] at d1 d2
        have g2 : decide (cmpD (digs R0) (digs y.natAbs) ≥ 0) = true := decide_eq_true ((cmpD_digs _ _).2 hR)
        obtain ⟨rr, m1, m2, m3⟩ := minus_d true yn (digs R0) (digs y.natAbs) (digs_ok _) (digs_ok _) (digs_length_mono hR) (by rw [val_digs, val_digs]; exact hR) (by omega)
        rw [val_digs, val_digs] at m2
        have m4 := trim_raw true rr false
        rw [strip_digs m1, m2, ← d1] at m4
        have g3 : IntKind.i64.wrap ((j : Int).tdiv 32) = ((j / 32 : Nat) : Int) := by
          rw [show (j : Int).tdiv 32 = ((j / 32 : Nat) : Int) by rw [Int.tdiv_eq_ediv_of_nonneg (by omega)]; omega]
          exact wrap_i64 (by omega) (by omega)
        have g4 : (j : Int).tmod 32 = ((j % 32 : Nat) : Int) := by rw [Int.tmod_eq_emod_of_nonneg (by omega)]; omega
        have g6 : (((j % 32 : Nat) : Int) < 0) ↔ False := by simp; omega
        have g7 : IntKind.u32.wrap (1 * 2 ^ (min (j % 32) 32)) = ((2 ^ (j % 32) : Nat) : Int) := by
          rw [Nat.min_eq_left (by omega), Int.one_mul]
          have : (2 : Int) ^ (j % 32) = ((2 ^ (j % 32) : Nat) : Int) := by simp
          rw [this]; exact wrap_u32_lt hp1
        have g8 := or_u32 (P := Try.prog) (h := s'.hp) 145 (a := q.getD (j / 32) 0) (b := 2 ^ (j % 32)) hu1 hp1
        have hjl : j / 32 < (digs x.natAbs).length := by omega
        have hjl1 : j / 32 + 1 ≤ (digs x.natAbs).length := hjl
        rw [horB] at g8 q1 q2
        clear hcmp hbit t1 t2 hmulti hroom horB m1 m2 hlenR hRl hu1 hp1
        generalize q.getD (j / 32) 0 = u at *
        generalize 2 ^ (j % 32) = pw at *
        repeat' (first
          | with_reducible refine cdK_splitN (fun h => ?_) (fun h => ?_)
          | with_reducible refine gdK_splitTN (fun h => ?_) (fun h => ?_)
          | with_reducible refine gdK_splitFN (fun h => ?_) (fun h => ?_)
          | with_reducible refine cdK_split (fun h => ?_) (fun h => ?_)
          | with_reducible refine gdK_splitT (fun h => ?_) (fun h => ?_)
          | with_reducible refine gdK_splitF (fun h => ?_) (fun h => ?_)
          | refine clK_mk (hbj) rfl ?_
          | refine clK_mk (hsh) rfl ?_
          | refine clK_mk (hc1) rfl ?_
          | refine clK_mk (m3) rfl ?_
          | refine clK_mk (m4) rfl ?_
          | simp only [go_sem, Nat.reduceBEq, Nat.reduceAdd, Nat.reduceMul, Nat.reduceSub, Nat.reduceLeDiff, Nat.reduceLT, Nat.reduceEqDiff, Int.reduceEq, Int.reduceBEq, Int.reduceBNe, Int.reduceLT, Int.reduceLE, *])
        refine hG j _ (Nat.lt_succ_self j) ⟨j, q.set (j / 32) (u + pw), rfl, by omega, rfl, ?_, ?_, ?_, ?_, by simp [hql], q1, ?_⟩
        · rw [hR1, d1]; rfl
        · simp only [go_sem, Nat.reduceBEq, Nat.reduceAdd, Nat.reduceMul, Nat.reduceSub, Nat.reduceLeDiff, Nat.reduceLT, Nat.reduceEqDiff, Int.reduceEq, Int.reduceBEq, Int.reduceBNe, Int.reduceLT, Int.reduceLE, h51]
        · simp only [go_sem, Nat.reduceBEq, Nat.reduceAdd, Nat.reduceMul, Nat.reduceSub, Nat.reduceLeDiff, Nat.reduceLT, Nat.reduceEqDiff, Int.reduceEq, Int.reduceBEq, Int.reduceBNe, Int.reduceLT, Int.reduceLE, h4]
        · simp only [go_sem, Nat.reduceBEq, Nat.reduceAdd, Nat.reduceMul, Nat.reduceSub, Nat.reduceLeDiff, Nat.reduceLT, Nat.reduceEqDiff, Int.reduceEq, Int.reduceBEq, Int.reduceBNe, Int.reduceLT, Int.reduceLE, h5]
        · rw [q2, hQ1, d2, Nat.add_mul, Nat.one_mul]
      · rw [if_neg hR] at d1 d2
        have g2 : decide (cmpD (digs R0) (digs y.natAbs) ≥ 0) = false := decide_eq_false (fun h => hR ((cmpD_digs _ _).1 h))
        clear hcmp hbit t1 t2 hmulti hroom horB hlenR hRl q1 q2 hu1 hp1
        repeat' (first
          | with_reducible refine cdK_splitN (fun h => ?_) (fun h => ?_)
          | with_reducible refine gdK_splitTN (fun h => ?_) (fun h => ?_)
          | with_reducible refine gdK_splitFN (fun h => ?_) (fun h => ?_)
          | with_reducible refine cdK_split (fun h => ?_) (fun h => ?_)
          | with_reducible refine gdK_splitT (fun h => ?_) (fun h => ?_)
          | with_reducible refine gdK_splitF (fun h => ?_) (fun h => ?_)
          | refine clK_mk (hbj) rfl ?_
          | refine clK_mk (hsh) rfl ?_
          | refine clK_mk (hc1) rfl ?_
          | simp only [go_sem, Nat.reduceBEq, Nat.reduceAdd, Nat.reduceMul, Nat.reduceSub, Nat.reduceLeDiff, Nat.reduceLT, Nat.reduceEqDiff, Int.reduceEq, Int.reduceBEq, Int.reduceBNe, Int.reduceLT, Int.reduceLE, *])
        refine hG j _ (Nat.lt_succ_self j) ⟨j, q, rfl, by omega, rfl, ?_, ?_, ?_, ?_, hql, hqo, ?_⟩
        · rw [hR1, d1]; rfl
        · exact h51
        · exact h4
        · exact h5
        · rw [hqv, hQ1, d2, Nat.add_zero]
/-- the quotient, truncated, and the remainder -/
theorem div_d (xn yn : Bool) (x y : Int) (hx : fits x) (hy : fits y) (hy0 : y ≠ 0) : DCall Try.prog 141 [encI xn x, encI yn y] (.tup [encI true (x.tdiv y), encI true (x.tmod y)]) := by
  by_cases h : (digs x.natAbs).length ≤ 2 ∧ (digs y.natAbs).length ≤ 2
  · exact div_small xn yn x y h.1 h.2 hy0
  · exact div_big xn yn x y hx hy h hy0
end Ytajgclnahfmfmaa
end Go.Vm
