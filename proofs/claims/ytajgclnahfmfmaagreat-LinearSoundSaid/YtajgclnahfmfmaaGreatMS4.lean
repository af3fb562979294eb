import Derived.Test.YtajgclnahfmfmaaGreatMS3
set_option linter.unusedSimpArgs false
set_option linter.unusedVariables false
section
set_option linter.unusedSimpArgs false
set_option maxRecDepth 10000
namespace Go.Vm
open Go Go.Proofs Go.Whole
namespace YtajgclnahfmfmaaGreat
open Go.Proofs.Tryz
attribute [go_sem] Tryz.results179 Tryz.results233 Tryz.results237 Tryz.results238 Tryz.results161 Tryz.results177 Tryz.results232
section
variable {P : Program} {h : Hp} (t : TypeId)
theorem ofInt_nat (w n : Nat) : BitVec.ofInt w (n : Int) = BitVec.ofNat w n := by
  apply BitVec.eq_of_toNat_eq; simp
theorem or_u64 {a b : Nat} (ha : a < 18446744073709551616) (hb : b < 18446744073709551616) : binPV P h .or t (.t (.int .u64 (a : Int))) (.t (.int .u64 (b : Int))) = some (.t (.int .u64 ((a ||| b : Nat) : Int))) := by
  rw [bin_or]
  have e1 : BitVec.ofInt IntKind.u64.bits (a : Int) = BitVec.ofNat 64 a := ofInt_nat 64 a
  have e2 : BitVec.ofInt IntKind.u64.bits (b : Int) = BitVec.ofNat 64 b := ofInt_nat 64 b
  rw [e1, e2]
  have e3 : (BitVec.ofNat 64 a ||| BitVec.ofNat 64 b).toNat = a ||| b := by
    rw [BitVec.toNat_or, BitVec.toNat_ofNat, BitVec.toNat_ofNat, Nat.mod_eq_of_lt ha, Nat.mod_eq_of_lt hb]
  have e4 : IntKind.u64.wrap (((BitVec.ofNat 64 a ||| BitVec.ofNat 64 b).toNat : Nat) : Int) = ((a ||| b : Nat) : Int) := by
    rw [e3]; exact wrap_u64_lt (Nat.or_lt_two_pow (n := 64) ha hb)
  exact congrArg (fun z => some (PV.t (.int .u64 z))) e4
theorem or_u32 {a b : Nat} (ha : a < B) (hb : b < B) : binPV P h .or t (.t (.int .u32 (a : Int))) (.t (.int .u32 (b : Int))) = some (.t (.int .u32 ((a ||| b : Nat) : Int))) := by
  rw [bin_or]
  have e1 : BitVec.ofInt IntKind.u32.bits (a : Int) = BitVec.ofNat 32 a := ofInt_nat 32 a
  have e2 : BitVec.ofInt IntKind.u32.bits (b : Int) = BitVec.ofNat 32 b := ofInt_nat 32 b
  rw [e1, e2]
  have e3 : (BitVec.ofNat 32 a ||| BitVec.ofNat 32 b).toNat = a ||| b := by
    rw [BitVec.toNat_or, BitVec.toNat_ofNat, BitVec.toNat_ofNat, Nat.mod_eq_of_lt (by rw [B_eq] at ha; omega), Nat.mod_eq_of_lt (by rw [B_eq] at hb; omega)]
  have e4 : IntKind.u32.wrap (((BitVec.ofNat 32 a ||| BitVec.ofNat 32 b).toNat : Nat) : Int) = ((a ||| b : Nat) : Int) := by
    rw [e3]; exact wrap_u32_lt (by rw [B_two] at ha hb ⊢; exact Nat.or_lt_two_pow ha hb)
  exact congrArg (fun z => some (PV.t (.int .u32 z))) e4
theorem and1_u32 {a : Nat} (ha : a < B) : binPV P h .and t (.t (.int .u32 (a : Int))) (.t (.int .u32 1)) = some (.t (.int .u32 ((a % 2 : Nat) : Int))) := by
  rw [bin_and]
  have e1 : BitVec.ofInt IntKind.u32.bits (a : Int) = BitVec.ofNat 32 a := ofInt_nat 32 a
  have e2 : BitVec.ofInt IntKind.u32.bits 1 = BitVec.ofNat 32 1 := ofInt_nat 32 1
  rw [e1, e2]
  have e3 : (BitVec.ofNat 32 a &&& BitVec.ofNat 32 1).toNat = a % 2 := by
    rw [BitVec.toNat_and, BitVec.toNat_ofNat, BitVec.toNat_ofNat, Nat.mod_eq_of_lt (by rw [B_eq] at ha; omega)]
    exact Nat.and_one_is_mod a
  have e4 : IntKind.u32.wrap (((BitVec.ofNat 32 a &&& BitVec.ofNat 32 1).toNat : Nat) : Int) = ((a % 2 : Nat) : Int) := by
    rw [e3]; exact wrap_u32_lt (by rw [B_eq]; omega)
  exact congrArg (fun z => some (PV.t (.int .u32 z))) e4
end
theorem wword_d (nn : Bool) (z : Int) (h2 : z.natAbs < 18446744073709551616) : DCall Tryz.prog 233 [encI nn z] (.int .u64 (z.natAbs : Int)) := by
  refine dcall_mk orders Tryz.func233 rfl (by kernel_rfl) noMu (by kernel_rfl) rfl (fun hs => ?_)
  clear hs
  unfold encI intC
  have hD := digs_ok z.natAbs
  have hl : (digs z.natAbs).length ≤ 2 := digs_length.2 (by rw [show B ^ 2 = 18446744073709551616 by decide]; exact h2)
  have hv := val_digs z.natAbs
  generalize hn : z.natAbs = n at *
  generalize digs n = D at *
  repeat' (first
    | (with_reducible first | refine sA ?_ ?_ | refine sB ?_ ?_ | refine sC ?_ ?_ | refine sD ?_ ?_ | refine sE ?_ ?_ | refine sF ?_ ?_) <;> intro h
    | simp only [go_sem, *])
  refine loop_range D (fun k s' => s'.sl 3 = .t (.int .u64 ((val (D.take k) : Nat) : Int))) rfl rfl (by first | assumption | omega) (by kernel_rfl) (fun _ _ _ _ hj => hj) (fun _ _ _ hj => hj) ?_ (fun k x s' hx hd hk hJ hix hfr G hG => ?_) (fun s' hJ hfr => ?_)
  · rfl
  · have c7 := hfr 7 (by kernel_rfl)
    clear hfr
    simp only [go_sem] at c7
    have hx' := hD x (List.mem_of_getElem? hx)
    have w2 := wrap_u64_lt (n := x) (by rw [B_eq] at hx'; omega)
    have e : val (D.take (k + 1)) = val (D.take k) + B ^ k * x := by
      rw [List.take_add_one, hx, val_append, List.length_take, Nat.min_eq_left (by omega)]
      simp [val]
    have hlt : val (D.take k) < B ^ k := by
      have := val_lt (okD_take hD k)
      rwa [List.length_take, Nat.min_eq_left (by omega)] at this
    have hk2 : k = 0 ∨ k = 1 := by omega
    rcases hk2 with rfl | rfl
    · have g1 : IntKind.i64.wrap (32 * ((0 : Nat) : Int)) = 0 := by decide
      have g2 : IntKind.u64.wrap ((x : Int) * 2 ^ (min 0 64)) = (x : Int) := by
        simpa using w2
      have g3 : val (D.take 0) = 0 := rfl
      rw [g3] at hJ
      have g4 := or_u64 (P := Tryz.prog) (h := s'.hp) 38 (a := 0) (b := x) (by decide) (by rw [B_eq] at hx'; omega)
      repeat' (first
        | (with_reducible first | refine sA ?_ ?_ | refine sB ?_ ?_ | refine sC ?_ ?_ | refine sD ?_ ?_ | refine sE ?_ ?_ | refine sF ?_ ?_) <;> intro h
        | simp only [go_sem, *])
      refine hG _ ?_
      show _ = _
      simp only [go_sem, e, Nat.pow_zero, Nat.one_mul, Nat.zero_add, Nat.zero_or]
      simp [val]
    · have g1 : IntKind.i64.wrap (32 * ((1 : Nat) : Int)) = 32 := by decide
      have g2 : IntKind.u64.wrap ((x : Int) * 2 ^ (min (Int.toNat 32) 64)) = ((x * 4294967296 : Nat) : Int) := by
        have : (x : Int) * 2 ^ (min (Int.toNat 32) 64) = ((x * 4294967296 : Nat) : Int) := by
          rw [show min (Int.toNat 32) 64 = 32 from rfl]; omega
        rw [this]; exact wrap_u64_lt (by rw [B_eq] at hx'; omega)
      have g4 := or_u64 (P := Tryz.prog) (h := s'.hp) 38 (a := val (D.take 1)) (b := x * 4294967296) (by rw [B_eq] at hlt; omega) (by rw [B_eq] at hx'; omega)
      have g5 : val (D.take 1) ||| x * 4294967296 = val (D.take 1) + B ^ 1 * x := by
        rw [Nat.or_comm, show x * 4294967296 = 2 ^ 32 * x by omega, ← Nat.two_pow_add_eq_or_of_lt (by rw [B_two] at hlt; simpa using hlt), B_two]; omega
      rw [g5] at g4
      repeat' (first
        | (with_reducible first | refine sA ?_ ?_ | refine sB ?_ ?_ | refine sC ?_ ?_ | refine sD ?_ ?_ | refine sE ?_ ?_ | refine sF ?_ ?_) <;> intro h
        | simp only [go_sem, *])
  · rw [List.take_length, hv] at hJ
    repeat' (first
      | (with_reducible first | refine sA ?_ ?_ | refine sB ?_ ?_ | refine sC ?_ ?_ | refine sD ?_ ?_ | refine sE ?_ ?_ | refine sF ?_ ?_) <;> intro h
      | simp only [go_sem, *])
theorem bit_d (nn : Bool) (z : Int) (hz : fits z) (i : Nat) (hi : i < 32 * (digs z.natAbs).length) : DCall Tryz.prog 238 [encI nn z, i64 i] (u32 (z.natAbs / 2 ^ i % 2)) := by
  refine dcall_mk orders Tryz.func238 rfl (by kernel_rfl) noMu (by kernel_rfl) rfl (fun hs => ?_)
  clear hs
  have hD := digs_ok z.natAbs
  have hz' : (digs z.natAbs).length ≤ 1000000 := hz.le
  have hb := bit_val hD i
  rw [val_digs] at hb
  rw [← hb]
  have hlt : i / 32 < (digs z.natAbs).length := by omega
  have hdB : (digs z.natAbs).getD (i / 32) 0 < B := by rw [getD_val hD]; exact mod_B _
  have hg : (digs z.natAbs)[i / 32]? = some ((digs z.natAbs).getD (i / 32) 0) := by rw [List.getD_eq_getElem?_getD, List.getElem?_eq_getElem hlt]; rfl
  clear hb hz
  generalize (digs z.natAbs).getD (i / 32) 0 = u at *
  unfold encI intC
  generalize digs z.natAbs = D at *
  have g1 : IntKind.i64.wrap ((i : Int).tdiv 32) = ((i / 32 : Nat) : Int) := by
    rw [show (i : Int).tdiv 32 = ((i / 32 : Nat) : Int) by rw [Int.tdiv_eq_ediv_of_nonneg (by omega)]; omega]
    exact wrap_i64 (by omega) (by omega)
  have g2 : (i : Int).tmod 32 = ((i % 32 : Nat) : Int) := by rw [Int.tmod_eq_emod_of_nonneg (by omega)]; omega
  have g3 : (u : Int).fdiv (2 ^ (min (i % 32) 32)) = ((u / 2 ^ (i % 32) : Nat) : Int) := by
    rw [shr_nat, Nat.min_eq_left (by omega)]
  have g4 : (((i % 32 : Nat) : Int) < 0) ↔ False := by simp; omega
  have g5 := and1_u32 (P := Tryz.prog) (h := fun _ => []) 222 (a := u / 2 ^ (i % 32)) (Nat.lt_of_le_of_lt (Nat.div_le_self _ _) hdB)
  repeat' (first
    | (with_reducible first | refine sA ?_ ?_ | refine sB ?_ ?_ | refine sC ?_ ?_ | refine sD ?_ ?_ | refine sE ?_ ?_ | refine sF ?_ ?_) <;> intro h
    | simp only [go_sem, *])
theorem dbl_or {x c : Nat} (hc : c ≤ 1) : (x * 2 % B) ||| c = x * 2 % B + c := by
  have e : x * 2 % B = 2 ^ 1 * (x % 2147483648) := by rw [B_eq]; omega
  rw [e, ← Nat.two_pow_add_eq_or_of_lt (by omega)]
theorem shift_d (nn : Bool) (d : List Nat) (bit : Nat) (hd0 : okD d) (hbit : bit ≤ 1) (hl : d.length ≤ 1000000) : DCall Tryz.prog 237 [.sl nn (dl d), u32 bit] (.sl true (dl (digs (2 * val d + bit)))) := by
  obtain ⟨r1, r2, r3⟩ := shiftL_spec hd0 hbit
  have ht := trim_d true _ false r2
  rw [r1] at ht
  simp only [Bool.false_eq_true, if_false] at ht
  have hna : ((2 * val d + bit : Nat) : Int).natAbs = 2 * val d + bit := by omega
  generalize hz : 2 * val d + bit = z at *
  clear r1 r2 r3 hz
  refine dcall_mk orders Tryz.func237 rfl (by kernel_rfl) (fun d => d == 11) (by kernel_rfl) rfl (fun hs => ?_)
  clear hs
  obtain ⟨L, hL⟩ : ∃ L, L = d.length + 1 := ⟨_, rfl⟩
  have f1 : IntKind.i64.wrap ((d.length : Int) + 1) = (L : Int) := by rw [hL]; exact wrap_succ (by omega)
  have hL1 : L ≤ d.length + 1 := by omega
  have hL2 : d.length + 1 ≤ L := by omega
  clear hL
  repeat' (first
    | (with_reducible first | refine sA ?_ ?_ | refine sB ?_ ?_ | refine sC ?_ ?_ | refine sD ?_ ?_ | refine sE ?_ ?_ | refine sF ?_ ?_) <;> intro h
    | simp only [go_sem, *])
  refine hpK_if ⟨by omega, by omega⟩ ?_
  repeat' (first
    | (with_reducible first | refine sA ?_ ?_ | refine sB ?_ ?_ | refine sC ?_ ?_ | refine sD ?_ ?_ | refine sE ?_ ?_ | refine sF ?_ ?_) <;> intro h
    | simp only [go_sem, *])
  refine loop_range d (fun k s' => ∃ (cur : List Nat) (c : Nat), s'.sl 1 = .t (u32 c) ∧ hget s'.hp (11, 0) = some ⟨(dl cur).map .t, 1, L, tU32, false, true⟩ ∧ cur.length = L ∧ c ≤ 1 ∧ shiftL d bit = cur.take k ++ shiftL (d.drop k) c) rfl rfl (by first | assumption | omega) (by kernel_rfl) (fun _ _ _ _ hj => hj) (fun _ _ _ hj => hj) ?_ (fun k x s' hx hd hk hJ hix hfr G hG => ?_) (fun s' hJ hfr => ?_)
  · exact ⟨List.replicate L 0, bit, rfl, rfl, by simp, hbit, by simp⟩
  · have c5 := hfr 5 (by kernel_rfl)
    have c12 := hfr 12 (by kernel_rfl)
    clear hfr
    simp only [go_sem] at c5 c12
    change _ = PV.rf (11, 0) L at c5
    obtain ⟨cur, c, h1, h11, hcl, hc, hJ⟩ := hJ
    have hxB := hd0 x (List.mem_of_getElem? hx)
    have hkc : k < cur.length := by omega
    have hkN : k < L := by omega
    have hkN1 : k + 1 ≤ L := hkN
    rw [hd, shiftL] at hJ
    have g1 : IntKind.u32.wrap ((x : Int) * 2 ^ (min (Int.toNat 1) 32)) = ((x * 2 % B : Nat) : Int) := by
      rw [show (x : Int) * 2 ^ (min (Int.toNat 1) 32) = ((x * 2 : Nat) : Int) by rw [show min (Int.toNat 1) 32 = 1 from rfl]; omega, wrap_u32]
    have g2 := or_u32 (P := Tryz.prog) (h := s'.hp) 222 (a := x * 2 % B) (b := c) (mod_B _) (by rw [B_eq]; omega)
    rw [dbl_or hc] at g2
    have g3 : x / 2147483648 = x / 2 ^ 31 := rfl
    repeat' (first
      | (with_reducible first | refine sA ?_ ?_ | refine sB ?_ ?_ | refine sC ?_ ?_ | refine sD ?_ ?_ | refine sE ?_ ?_ | refine sF ?_ ?_) <;> intro h
      | simp only [go_sem, *])
    refine hG _ ⟨cur.set k (x * 2 % B + c), x / 2 ^ 31, rfl, ?_, by simp [hcl], by rw [B_eq] at hxB; omega, ?_⟩
    · simp only [go_sem, h11]
    · rw [take_set_succ _ _ _ hkc, hJ]; simp
  · obtain ⟨cur, c, h1, h11, hcl, hc, hJ⟩ := hJ
    have c0 := hfr 0 (by kernel_rfl)
    have c5 := hfr 5 (by kernel_rfl)
    clear hfr
    simp only [go_sem] at c0 c5
    change _ = PV.rf (11, 0) L at c5
    have hkN : d.length < L := by omega
    have hkc : d.length < cur.length := by omega
    rw [List.drop_length, shiftL] at hJ
    have e : cur.set d.length c = cur.take d.length ++ [c] := by
      have := take_set_succ cur d.length c hkc
      rw [← this, List.take_of_length_le (by simp; omega)]
    rw [hJ, ← e] at ht
    clear hJ e
    have hdep := toTr_set (l := dl (cur.set d.length c)) (esz := 1) (n := L) (e := tU32) (lv := true) h11
    repeat' (first
      | (with_reducible first | refine sA ?_ ?_ | refine sB ?_ ?_ | refine sC ?_ ?_ | refine sD ?_ ?_ | refine sE ?_ ?_ | refine sF ?_ ?_) <;> intro h
      | simp only [go_sem, *])
    refine clK_fz ht (by simp only [go_sem, hdep]) rfl ?_
    repeat' (first
      | (with_reducible first | refine sA ?_ ?_ | refine sB ?_ ?_ | refine sC ?_ ?_ | refine sD ?_ ?_ | refine sE ?_ ?_ | refine sF ?_ ?_) <;> intro h
      | simp only [go_sem, *])
theorem from_nat (n : Nat) (hn : n < 18446744073709551616) : DCall Tryz.prog 104 [.int .u64 n] (.agg [.sl true (dl (digs n)), .bool false]) := by
  have := from_d n hn
  unfold encI intC at this
  rw [show ((n : Int)).natAbs = n by omega, show decide ((n : Int) < 0) = false from decide_eq_false (by omega)] at this
  exact this
theorem tdiv_sign (x y : Int) : (if (decide (x < 0) != decide (y < 0)) = true then -((x.natAbs / y.natAbs : Nat) : Int) else ((x.natAbs / y.natAbs : Nat) : Int)) = x.tdiv y := by
  have key : ∀ a b : Nat, ((a : Int)).tdiv (b : Int) = ((a / b : Nat) : Int) := fun _ _ => rfl
  by_cases h1 : x < 0
  · obtain ⟨a, rfl⟩ : ∃ a : Nat, x = -(a : Int) := ⟨x.natAbs, by omega⟩
    by_cases h2 : y < 0
    · obtain ⟨b, rfl⟩ : ∃ b : Nat, y = -(b : Int) := ⟨y.natAbs, by omega⟩
      rw [decide_eq_true h1, decide_eq_true h2, Int.neg_tdiv, Int.tdiv_neg, key]; simp
    · obtain ⟨b, rfl⟩ : ∃ b : Nat, y = (b : Int) := ⟨y.natAbs, by omega⟩
      rw [decide_eq_true h1, decide_eq_false h2, Int.neg_tdiv, key]; simp
  · obtain ⟨a, rfl⟩ : ∃ a : Nat, x = (a : Int) := ⟨x.natAbs, by omega⟩
    by_cases h2 : y < 0
    · obtain ⟨b, rfl⟩ : ∃ b : Nat, y = -(b : Int) := ⟨y.natAbs, by omega⟩
      rw [decide_eq_false h1, decide_eq_true h2, Int.tdiv_neg, key]; simp
    · obtain ⟨b, rfl⟩ : ∃ b : Nat, y = (b : Int) := ⟨y.natAbs, by omega⟩
      rw [decide_eq_false h1, decide_eq_false h2, key]; simp
theorem tmod_sign (x y : Int) : (if decide (x < 0) = true then -((x.natAbs % y.natAbs : Nat) : Int) else ((x.natAbs % y.natAbs : Nat) : Int)) = x.tmod y := by
  have key : ∀ a b : Nat, ((a : Int)).tmod (b : Int) = ((a % b : Nat) : Int) := fun _ _ => rfl
  obtain ⟨b, hb⟩ : ∃ b : Nat, b = y.natAbs := ⟨_, rfl⟩
  have hy : x.tmod y = x.tmod (b : Int) := by
    rcases Int.natAbs_eq y with h | h
    · rw [hb, ← h]
    · rw [hb]; conv => lhs; rw [h, Int.tmod_neg]
  rw [hy, ← hb]
  by_cases h1 : x < 0
  · obtain ⟨a, rfl⟩ : ∃ a : Nat, x = -(a : Int) := ⟨x.natAbs, by omega⟩
    rw [decide_eq_true h1, Int.neg_tmod, key]; simp
  · obtain ⟨a, rfl⟩ : ∃ a : Nat, x = (a : Int) := ⟨x.natAbs, by omega⟩
    rw [decide_eq_false h1, key]; simp
theorem div_small (xn yn : Bool) (x y : Int) (hx2 : (digs x.natAbs).length ≤ 2) (hy2 : (digs y.natAbs).length ≤ 2) (hy0 : y ≠ 0) : DCall Tryz.prog 179 [encI xn x, encI yn y] (.tup [encI true (x.tdiv y), encI true (x.tmod y)]) := by
  refine dcall_mk orders Tryz.func179 rfl (by kernel_rfl) (fun d => d == 4 || d == 5 || d == 8 || d == 9 || d == 35 || d == 43 || d == 51 || d == 78 || d == 81 || d == 87 || d == 94) (by kernel_rfl) rfl (fun hs => ?_)
  clear hs
  have hX : x.natAbs < 18446744073709551616 := by have := lt_of_digs_length hx2; rwa [show B ^ 2 = 18446744073709551616 by decide] at this
  have hY : y.natAbs < 18446744073709551616 := by have := lt_of_digs_length hy2; rwa [show B ^ 2 = 18446744073709551616 by decide] at this
  have f1 : decide (((digs x.natAbs).length : Int) ≤ 2) = true := decide_eq_true (by omega)
  have f2 : decide (((digs y.natAbs).length : Int) ≤ 2) = true := decide_eq_true (by omega)
  have f3 : ((y.natAbs : Nat) : Int) = 0 ↔ False := by simp; omega
  have f4 : IntKind.u64.wrap ((x.natAbs : Int).tdiv (y.natAbs : Int)) = ((x.natAbs / y.natAbs : Nat) : Int) := by
    rw [show (x.natAbs : Int).tdiv (y.natAbs : Int) = ((x.natAbs / y.natAbs : Nat) : Int) from rfl]
    exact wrap_u64_lt (Nat.lt_of_le_of_lt (Nat.div_le_self _ _) hX)
  have f5 : (x.natAbs : Int).tmod (y.natAbs : Int) = ((x.natAbs % y.natAbs : Nat) : Int) := rfl
  have hq := from_nat (x.natAbs / y.natAbs) (Nat.lt_of_le_of_lt (Nat.div_le_self _ _) hX)
  have hr := from_nat (x.natAbs % y.natAbs) (Nat.lt_of_le_of_lt (Nat.mod_le _ _) hX)
  have t1 := trim_d true (digs (x.natAbs / y.natAbs)) (decide (x < 0) != decide (y < 0)) (digs_ok _)
  rw [val_digs, tdiv_sign] at t1
  have t2 := trim_d true (digs (x.natAbs % y.natAbs)) (decide (x < 0)) (digs_ok _)
  rw [val_digs, tmod_sign] at t2
  have w1 := wword_d xn x hX
  have w2 := wword_d yn y hY
  generalize x.tdiv y = q at *
  generalize x.tmod y = r at *
  clear hx2 hy2
  repeat' (first
    | (with_reducible first | refine sA ?_ ?_ | refine sB ?_ ?_ | refine sC ?_ ?_ | refine sD ?_ ?_ | refine sE ?_ ?_ | refine sF ?_ ?_) <;> intro h
    | refine clK_mk (w1) rfl ?_
    | refine clK_mk (w2) rfl ?_
    | refine clK_mk (hq) rfl ?_
    | refine clK_mk (hr) rfl ?_
    | refine clK_mk (t1) rfl ?_
    | refine clK_mk (t2) rfl ?_
    | simp only [go_sem, *])
theorem digs_dbl {r b n : Nat} (h : r ≤ 2 * b) (hb : (digs b).length ≤ n) : (digs r).length ≤ n + 1 := digs_length_le (by
  rw [Nat.pow_succ]
  have h1 := lt_of_digs_length hb
  have h2 : B ^ n * 2 ≤ B ^ n * B := Nat.mul_le_mul_left _ (by decide)
  omega)
theorem div_big (xn yn : Bool) (x y : Int) (hx : fits x) (hy : fits y) (hb : ¬ ((digs x.natAbs).length ≤ 2 ∧ (digs y.natAbs).length ≤ 2)) (hy0 : y ≠ 0) : DCall Tryz.prog 179 [encI xn x, encI yn y] (.tup [encI true (x.tdiv y), encI true (x.tmod y)]) := by
  refine dcall_mk orders Tryz.func179 rfl (by kernel_rfl) (fun d => d == 4 || d == 5 || d == 8 || d == 9 || d == 35 || d == 43 || d == 51 || d == 78 || d == 81 || d == 87 || d == 94) (by kernel_rfl) rfl (fun hs => ?_)
  clear hs
  have hx' : (digs x.natAbs).length ≤ 400000 := hx
  have hy' : (digs y.natAbs).length ≤ 400000 := hy
  have f0 : (decide (((digs x.natAbs).length : Int) ≤ 2) = true → decide (((digs y.natAbs).length : Int) ≤ 2) = false) := fun h => decide_eq_false (fun h2 => hb ⟨by have := of_decide_eq_true h; omega, by omega⟩)
  have f2 : IntKind.i64.wrap (32 * ((digs x.natAbs).length : Int)) = 32 * ((digs x.natAbs).length : Int) := wrap_i64 (by omega) (by omega)
  have f3 : IntKind.i64.wrap (32 * ((digs x.natAbs).length : Int) - 1) = ((32 * (digs x.natAbs).length : Nat) : Int) - 1 := by rw [wrap_i64 (by omega) (by omega)]; omega
  have t1 := fun l (h : okD l) => trim_d true l (decide (x < 0) != decide (y < 0)) h
  have t2 := trim_d true (digs (x.natAbs % y.natAbs)) (decide (x < 0)) (digs_ok _)
  rw [val_digs, tmod_sign] at t2
  have hX0 : x.natAbs / 2 ^ (32 * (digs x.natAbs).length) = 0 := by
    refine Nat.div_eq_of_lt ?_
    have := lt_of_digs_length (Nat.le_refl (digs x.natAbs).length)
    rwa [B_two, ← Nat.pow_mul] at this
  have hcmp := fun r (hr : (digs r).length ≤ 1000000) => compare_d true yn (digs r) (digs y.natAbs) (digs_ok _) (digs_ok _) hr hy.le
  have hbit := fun i hi => bit_d xn x hx i hi
  have hq0 : 0 < y.natAbs := by omega
  unfold encI intC at hbit
  by_cases hc : decide (((digs x.natAbs).length : Int) ≤ 2) = true
  case' pos => have f1 := f0 hc
  all_goals
    clear f0 hb
    repeat' (first
      | (with_reducible first | refine sA ?_ ?_ | refine sB ?_ ?_ | refine sC ?_ ?_ | refine sD ?_ ?_ | refine sE ?_ ?_ | refine sF ?_ ?_) <;> intro h
      | simp only [go_sem, *])
    refine hpK_if ⟨by omega, by omega⟩ ?_
    repeat' (first
      | (with_reducible first | refine sA ?_ ?_ | refine sB ?_ ?_ | refine sC ?_ ?_ | refine sD ?_ ?_ | refine sE ?_ ?_ | refine sF ?_ ?_) <;> intro h
      | simp only [go_sem, *])
    refine loop_mk (fun m s' => ∃ (i : Nat) (q : List Nat), m = i ∧ i ≤ 32 * (digs x.natAbs).length ∧ s'.sl 12 = .t (i64 ((i : Int) - 1)) ∧ s'.sl 11 = .t (.sl true (dl (digs (x.natAbs / 2 ^ i % y.natAbs)))) ∧ hget s'.hp (51, 0) = some ⟨(dl q).map .t, 1, (digs x.natAbs).length, tU32, false, true⟩ ∧
      hget s'.hp (4, 0) = some ⟨[.t (.sl false []), .t (.bool false)], 2, 1, tWInt, true, true⟩ ∧ hget s'.hp (5, 0) = some ⟨[.t (.sl false []), .t (.bool false)], 2, 1, tWInt, true, true⟩ ∧ q.length = (digs x.natAbs).length ∧ okD q ∧ val q = x.natAbs / 2 ^ i / y.natAbs * 2 ^ i) (32 * (digs x.natAbs).length)
      ⟨32 * (digs x.natAbs).length, List.replicate (digs x.natAbs).length 0, rfl, Nat.le_refl _, rfl, by rw [hX0, Nat.zero_mod, digs_zero]; rfl, rfl, rfl, rfl, by simp, okD_zeros _, by rw [val_zeros, hX0]; simp⟩ ?_
    rintro i s' ⟨_, q, rfl, hi, h12, h11, h51, h4, h5, hql, hqo, hqv⟩ hfr G hG
    have c2 := hfr 2 (by kernel_rfl)
    have c3 := hfr 3 (by kernel_rfl)
    have c4 := hfr 4 (by kernel_rfl)
    have c5 := hfr 5 (by kernel_rfl)
    have c10 := hfr 10 (by kernel_rfl)
    clear hfr
    simp only [go_sem] at c2 c3 c4 c5 c10
    change _ = PV.rf (51, 0) (digs x.natAbs).length at c10
    change _ = PV.ad (4, 0) 1 0 at c4
    change _ = PV.ad (5, 0) 1 0 at c5
    cases i with
    | zero =>
      have g1 : decide ((((0 : Nat) : Int) - 1) ≥ 0) = false := rfl
      rw [Nat.pow_zero, Nat.div_one] at h11 hqv
      rw [Nat.mul_one] at hqv
      have t1 := t1 q hqo
      rw [hqv, tdiv_sign] at t1
      have hdep := toTr_ints 5 h51
      change toTr s'.hp dep _ = _ at hdep
      have hz4 := frz_row (m := (digs x.natAbs).length) h51 h4 rfl
      have hz5 := frz_row (m := (digs x.natAbs).length) h51 h5 rfl
      clear hcmp hbit hqv
      repeat' (first
        | (with_reducible first | refine sA ?_ ?_ | refine sB ?_ ?_ | refine sC ?_ ?_ | refine sD ?_ ?_ | refine sE ?_ ?_ | refine sF ?_ ?_) <;> intro h
        | simp only [go_sem, *])
      refine clK_fx t1 (by simp only [go_sem, hdep]) rfl ?_
      repeat' (first
        | (with_reducible first | refine sA ?_ ?_ | refine sB ?_ ?_ | refine sC ?_ ?_ | refine sD ?_ ?_ | refine sE ?_ ?_ | refine sF ?_ ?_) <;> intro h
        | refine clK_mk (t2) rfl ?_
        | simp only [go_sem, *])
    | succ j =>
      have e0 : (((j + 1 : Nat) : Int) - 1) = (j : Int) := by omega
      rw [e0] at h12
      have hj : j < 32 * (digs x.natAbs).length := by omega
      have g1 : decide (((j : Nat) : Int) ≥ 0) = true := by simp
      have hbj := hbit j hj
      obtain ⟨d1, d2⟩ := div_step x.natAbs y.natAbs j hq0
      have hlenR : (digs (x.natAbs / 2 ^ (j + 1) % y.natAbs)).length ≤ 400000 := Nat.le_trans (digs_length_mono (Nat.le_of_lt (Nat.mod_lt _ hq0))) hy'
      have hsh := shift_d true (digs (x.natAbs / 2 ^ (j + 1) % y.natAbs)) (x.natAbs / 2 ^ j % 2) (digs_ok _) (by omega) (by omega)
      rw [val_digs] at hsh
      have hRl : (digs (2 * (x.natAbs / 2 ^ (j + 1) % y.natAbs) + x.natAbs / 2 ^ j % 2)).length ≤ 400000 + 1 := digs_dbl (b := y.natAbs) (by have := Nat.mod_lt (x.natAbs / 2 ^ (j + 1)) hq0; omega) hy'
      have g5 : IntKind.i64.wrap ((j : Int) - 1) = (j : Int) - 1 := wrap_i64 (by omega) (by omega)
      have hmulti : val q % 2 ^ (j + 1) = 0 := by rw [hqv]; exact Nat.mul_mod_left _ _
      have hjq : j / 32 < q.length := by omega
      obtain ⟨q1, q2⟩ := quot_set hqo hmulti hjq
      have hroom := digit_room hqo hmulti
      have hu1 : q.getD (j / 32) 0 < B := Nat.lt_of_le_of_lt (Nat.le_add_right _ _) hroom
      have hp1 : 2 ^ (j % 32) < B := Nat.lt_of_le_of_lt (Nat.le_add_left _ _) hroom
      have horB : q.getD (j / 32) 0 ||| 2 ^ (j % 32) = q.getD (j / 32) 0 + 2 ^ (j % 32) := or_bit (digit_low hqo hmulti)
      have hqget : q[j / 32]? = some (q.getD (j / 32) 0) := by rw [List.getD_eq_getElem?_getD, List.getElem?_eq_getElem hjq]; rfl
      have e2 : x.natAbs / 2 ^ (j + 1) / y.natAbs * 2 ^ (j + 1) = 2 * (x.natAbs / 2 ^ (j + 1) / y.natAbs) * 2 ^ j := by rw [Nat.pow_succ]; rw [Nat.mul_comm 2, Nat.mul_assoc, Nat.mul_comm 2]
      rw [hqv, e2] at q2
      rw [e2] at hqv
      generalize hQ1 : x.natAbs / 2 ^ j / y.natAbs = Q1 at *
      generalize hR1 : x.natAbs / 2 ^ j % y.natAbs = R1 at *
      generalize x.natAbs / 2 ^ (j + 1) / y.natAbs = Q0 at *
      generalize 2 * (x.natAbs / 2 ^ (j + 1) % y.natAbs) + x.natAbs / 2 ^ j % 2 = R0 at *
      generalize x.natAbs / 2 ^ (j + 1) % y.natAbs = R00 at *
      generalize x.natAbs / 2 ^ j % 2 = bt at *
      have hc1 := hcmp R0 (by omega)
      by_cases hR : y.natAbs ≤ R0
      · rw [if_pos hR] at d1 d2
        have g2 : decide (cmpD (digs R0) (digs y.natAbs) ≥ 0) = true := decide_eq_true ((cmpD_digs _ _).2 hR)
        obtain ⟨rr, m1, m2, m3⟩ := minus_d true yn (digs R0) (digs y.natAbs) (digs_ok _) (digs_ok _) (digs_length_mono hR) (by rw [val_digs, val_digs]; exact hR) (by omega)
        rw [val_digs, val_digs] at m2
        have m4 := trim_raw true rr false
        rw [strip_digs m1, m2, ← d1] at m4
        have g3 : IntKind.i64.wrap ((j : Int).tdiv 32) = ((j / 32 : Nat) : Int) := by
          rw [show (j : Int).tdiv 32 = ((j / 32 : Nat) : Int) by rw [Int.tdiv_eq_ediv_of_nonneg (by omega)]; omega]
          exact wrap_i64 (by omega) (by omega)
        have g4 : (j : Int).tmod 32 = ((j % 32 : Nat) : Int) := by rw [Int.tmod_eq_emod_of_nonneg (by omega)]; omega
        have g6 : (((j % 32 : Nat) : Int) < 0) ↔ False := by simp; omega
        have g7 : IntKind.u32.wrap (1 * 2 ^ (min (j % 32) 32)) = ((2 ^ (j % 32) : Nat) : Int) := by
          rw [Nat.min_eq_left (by omega), Int.one_mul]
          have : (2 : Int) ^ (j % 32) = ((2 ^ (j % 32) : Nat) : Int) := by simp
          rw [this]; exact wrap_u32_lt hp1
        have g8 := or_u32 (P := Tryz.prog) (h := s'.hp) 222 (a := q.getD (j / 32) 0) (b := 2 ^ (j % 32)) hu1 hp1
        have hjl : j / 32 < (digs x.natAbs).length := by omega
        have hjl1 : j / 32 + 1 ≤ (digs x.natAbs).length := hjl
        rw [horB] at g8 q1 q2
        clear hcmp hbit t1 t2 hmulti hroom horB m1 m2 hlenR hRl hu1 hp1
        generalize q.getD (j / 32) 0 = u at *
        generalize 2 ^ (j % 32) = pw at *
        repeat' (first
          | (with_reducible first | refine sA ?_ ?_ | refine sB ?_ ?_ | refine sC ?_ ?_ | refine sD ?_ ?_ | refine sE ?_ ?_ | refine sF ?_ ?_) <;> intro h
          | refine clK_mk (hbj) rfl ?_
          | refine clK_mk (hsh) rfl ?_
          | refine clK_mk (hc1) rfl ?_
          | refine clK_mk (m3) rfl ?_
          | refine clK_mk (m4) rfl ?_
          | simp only [go_sem, *])
        refine hG j _ (Nat.lt_succ_self j) ⟨j, q.set (j / 32) (u + pw), rfl, by omega, rfl, ?_, ?_, ?_, ?_, by simp [hql], q1, ?_⟩
        · rw [hR1, d1]; rfl
        · simp only [go_sem, h51]
        · simp only [go_sem, h4]
        · simp only [go_sem, h5]
        · rw [q2, hQ1, d2, Nat.add_mul, Nat.one_mul]
      · rw [if_neg hR] at d1 d2
        have g2 : decide (cmpD (digs R0) (digs y.natAbs) ≥ 0) = false := decide_eq_false (fun h => hR ((cmpD_digs _ _).1 h))
        clear hcmp hbit t1 t2 hmulti hroom horB hlenR hRl q1 q2 hu1 hp1
        repeat' (first
          | (with_reducible first | refine sA ?_ ?_ | refine sB ?_ ?_ | refine sC ?_ ?_ | refine sD ?_ ?_ | refine sE ?_ ?_ | refine sF ?_ ?_) <;> intro h
          | refine clK_mk (hbj) rfl ?_
          | refine clK_mk (hsh) rfl ?_
          | refine clK_mk (hc1) rfl ?_
          | simp only [go_sem, *])
        refine hG j _ (Nat.lt_succ_self j) ⟨j, q, rfl, by omega, rfl, ?_, ?_, ?_, ?_, hql, hqo, ?_⟩
        · rw [hR1, d1]; rfl
        · exact h51
        · exact h4
        · exact h5
        · rw [hqv, hQ1, d2, Nat.add_zero]
theorem div_d (xn yn : Bool) (x y : Int) (hx : fits x) (hy : fits y) (hy0 : y ≠ 0) : DCall Tryz.prog 179 [encI xn x, encI yn y] (.tup [encI true (x.tdiv y), encI true (x.tmod y)]) := by
  by_cases h : (digs x.natAbs).length ≤ 2 ∧ (digs y.natAbs).length ≤ 2
  · exact div_small xn yn x y h.1 h.2 hy0
  · exact div_big xn yn x y hx hy h hy0
end YtajgclnahfmfmaaGreat
end Go.Vm
end
section
set_option linter.unusedSimpArgs false
set_option maxRecDepth 10000
namespace Go.Vm
open Go Go.Proofs Go.Whole
namespace YtajgclnahfmfmaaGreat
open Go.Proofs.Tryz
theorem wsmall_d (nn : Bool) (z : Int) (m : Nat) (hm : m ≤ 4611686018427387904) : DCall Tryz.prog 161 [encI nn z, i64 m] (.tup [i64 (if z.natAbs ≤ m then z else 0), .bool (decide (z.natAbs ≤ m))]) := by
  refine dcall_mk orders Tryz.func161 rfl (by kernel_rfl) noMu (by kernel_rfl) rfl (fun hs => ?_)
  clear hs
  have f1 := wrap_u64_lt (n := m) (by omega)
  by_cases hl : (digs z.natAbs).length ≤ 2
  · have hz : z.natAbs < 18446744073709551616 := by have := lt_of_digs_length hl; rwa [show B ^ 2 = 18446744073709551616 by decide] at this
    have g1 : decide (((digs z.natAbs).length : Int) > 2) = false := decide_eq_false (by omega)
    have w := wword_d nn z hz
    by_cases hc : z.natAbs ≤ m
    · have g2 : decide (((z.natAbs : Nat) : Int) > (m : Int)) = false := decide_eq_false (by omega)
      rw [if_pos hc, decide_eq_true hc]
      have g3 : IntKind.i64.wrap ((z.natAbs : Nat) : Int) = z.natAbs := wrap_i64 (by omega) (by omega)
      have g4 : IntKind.i64.wrap (0 - ((z.natAbs : Nat) : Int)) = -(z.natAbs : Int) := by rw [show (0 - ((z.natAbs : Nat) : Int)) = -(z.natAbs : Int) by omega]; exact wrap_i64 (by omega) (by omega)
      clear hc
      by_cases hs : z < 0
      · have g5 : decide (z < 0) = true := decide_eq_true hs
        have e : -(z.natAbs : Int) = z := by omega
        unfold encI intC at w
        rw [g5] at w
        repeat' (first
          | (with_reducible first | refine sA ?_ ?_ | refine sB ?_ ?_ | refine sC ?_ ?_ | refine sD ?_ ?_ | refine sE ?_ ?_ | refine sF ?_ ?_) <;> intro h
          | refine clK_mk (w) rfl ?_
          | simp only [go_sem, *])
      · have g5 : decide (z < 0) = false := decide_eq_false hs
        have e : (z.natAbs : Int) = z := by omega
        rw [e] at g3 g2
        unfold encI intC at w
        rw [g5, e] at w
        repeat' (first
          | (with_reducible first | refine sA ?_ ?_ | refine sB ?_ ?_ | refine sC ?_ ?_ | refine sD ?_ ?_ | refine sE ?_ ?_ | refine sF ?_ ?_) <;> intro h
          | refine clK_mk (w) rfl ?_
          | simp only [go_sem, *])
    · have g2 : decide (((z.natAbs : Nat) : Int) > (m : Int)) = true := decide_eq_true (by omega)
      rw [if_neg hc, decide_eq_false hc]
      clear hc
      repeat' (first
        | (with_reducible first | refine sA ?_ ?_ | refine sB ?_ ?_ | refine sC ?_ ?_ | refine sD ?_ ?_ | refine sE ?_ ?_ | refine sF ?_ ?_) <;> intro h
        | refine clK_mk (w) rfl ?_
        | simp only [go_sem, *])
  · have g1 : decide (((digs z.natAbs).length : Int) > 2) = true := decide_eq_true (by omega)
    have hc : ¬ z.natAbs ≤ m := by
      intro h
      exact hl (digs_length.2 (by rw [show B ^ 2 = 18446744073709551616 by decide]; omega))
    rw [if_neg hc, decide_eq_false hc]
    clear hc
    repeat' (first
      | (with_reducible first | refine sA ?_ ?_ | refine sB ?_ ?_ | refine sC ?_ ?_ | refine sD ?_ ?_ | refine sE ?_ ?_ | refine sF ?_ ?_) <;> intro h
      | simp only [go_sem, *])
theorem gcd_d (x y : Int) (hx : fits x) (hy : fits y) : DCall Tryz.prog 177 [encI true x, encI true y] (encI true (Int.gcd x y)) := by
  refine dcall_mk orders Tryz.func177 rfl (by kernel_rfl) (fun d => d == 2 || d == 3 || d == 4 || d == 5 || d == 6 || d == 1000002 || d == 1000006) (by kernel_rfl) rfl (fun hs => ?_)
  clear hs
  have a1 := abs_d true x
  have a2 := abs_d true y
  repeat' (first
    | (with_reducible first | refine sA ?_ ?_ | refine sB ?_ ?_ | refine sC ?_ ?_ | refine sD ?_ ?_ | refine sE ?_ ?_ | refine sF ?_ ?_) <;> intro h
    | refine clK_mk (a1) rfl ?_
    | refine clK_mk (a2) rfl ?_
    | simp only [go_sem, *])
  refine loop_mk (fun m s' => ∃ a b : Nat, m = b ∧ hget s'.hp (2, 0) = some ⟨(intC true a).map .t, 2, 1, tWInt, true, true⟩ ∧ hget s'.hp (3, 0) = some ⟨(intC true b).map .t, 2, 1, tWInt, true, true⟩ ∧ hget s'.hp (4, 0) = some ⟨[.t (.sl false []), .t (.bool false)], 2, 1, tWInt, true, true⟩ ∧ fits a ∧ fits b ∧ Nat.gcd a b = Int.gcd x y) y.natAbs
    ⟨x.natAbs, y.natAbs, rfl, rfl, rfl, rfl, fits_mono (by omega) hx, fits_mono (by omega) hy, rfl⟩ ?_
  rintro b s' ⟨a, _, rfl, h2, h3, h4, ha, hb, hg⟩ hfr G hG
  have c2 := hfr 2 (by kernel_rfl)
  have c3 := hfr 3 (by kernel_rfl)
  have c4 := hfr 4 (by kernel_rfl)
  clear hfr
  simp only [go_sem] at c2 c3 c4
  change _ = PV.ad (2, 0) 1 0 at c2
  change _ = PV.ad (3, 0) 1 0 at c3
  change _ = PV.ad (4, 0) 1 0 at c4
  have sg := sign_d true (b : Int)
  by_cases h0 : b = 0
  · subst h0
    rw [Nat.gcd_zero_right] at hg
    subst hg
    rw [show ((0 : Nat) : Int).sign = 0 from rfl] at sg
    repeat' (first
      | (with_reducible first | refine sA ?_ ?_ | refine sB ?_ ?_ | refine sC ?_ ?_ | refine sD ?_ ?_ | refine sE ?_ ?_ | refine sF ?_ ?_) <;> intro h
      | refine clK_mk (sg) rfl ?_
      | simp only [go_sem, *])
  · rw [show ((b : Nat) : Int).sign = 1 from Int.sign_eq_one_of_pos (by omega)] at sg
    have dv := div_d true true (a : Int) (b : Int) ha hb (by omega)
    rw [show (a : Int).tmod (b : Int) = ((a % b : Nat) : Int) from rfl] at dv
    have hlt : a % b < b := Nat.mod_lt _ (by omega)
    have hg2 : Nat.gcd b (a % b) = Int.gcd x y := by rw [← hg, Nat.gcd_comm a b, Nat.gcd_rec b a, Nat.gcd_comm]
    generalize (a : Int).tdiv (b : Int) = q at *
    generalize a % b = r at *
    repeat' (first
      | (with_reducible first | refine sA ?_ ?_ | refine sB ?_ ?_ | refine sC ?_ ?_ | refine sD ?_ ?_ | refine sE ?_ ?_ | refine sF ?_ ?_) <;> intro h
      | refine clK_mk (sg) rfl ?_
      | refine clK_mk (dv) rfl ?_
      | simp only [go_sem, *])
    refine hG r _ hlt ⟨b, r, rfl, ?_, ?_, ?_, hb, fits_mono (by omega) hb, hg2⟩
    · simp only [go_sem, h2]
    · simp only [go_sem, h3]
    · simp only [go_sem, h4]
end YtajgclnahfmfmaaGreat
end Go.Vm
end
section
set_option linter.unusedSimpArgs false
set_option maxRecDepth 10000
namespace Go.Vm
open Go Go.Proofs Go.Whole
namespace YtajgclnahfmfmaaGreat
open Go.Proofs.Tryz
attribute [go_sem] Tryz.results234 Tryz.results269 Tryz.results270 Tryz.results235 Tryz.results268 Tryz.results95 Tryz.results157 Tryz.results164 Tryz.results165 Tryz.results83 Tryz.results159 Tryz.results181 Tryz.results158 Tryz.results162 Tryz.results163 Tryz.results231 Tryz.results160
abbrev tRat : TypeId := 137
theorem size_d (a : Int) (h : inI64 a) : DCall Tryz.prog 269 [i64 a] (.int .u64 (a.natAbs : Int)) := by
  obtain ⟨h1, h2⟩ := h
  refine dcall_mk orders Tryz.func269 rfl (by kernel_rfl) noMu (by kernel_rfl) rfl (fun hs => ?_)
  clear hs
  by_cases hz : a < 0
  · have f0 : decide (a < 0) = true := decide_eq_true hz
    have f1 := wrap_u64_neg h1 hz
    have f2 := wrap_u64_sub (n := a.natAbs) (by omega) (by omega)
    rw [Nat.mod_eq_of_lt (by omega)] at f2
    repeat' (first
      | (with_reducible first | refine sA ?_ ?_ | refine sB ?_ ?_ | refine sC ?_ ?_ | refine sD ?_ ?_ | refine sE ?_ ?_ | refine sF ?_ ?_) <;> intro h
      | simp only [go_sem, *])
  · have f0 : decide (a < 0) = false := decide_eq_false hz
    have f1 := wrap_u64_pos h2 (by omega)
    repeat' (first
      | (with_reducible first | refine sA ?_ ?_ | refine sB ?_ ?_ | refine sC ?_ ?_ | refine sD ?_ ?_ | refine sE ?_ ?_ | refine sF ?_ ?_) <;> intro h
      | simp only [go_sem, *])
theorem mul64_split (x y : Nat) (hx : x < 18446744073709551616) (hy : y < 18446744073709551616) :
    let x0 := x % 4294967296; let x1 := x / 4294967296; let y0 := y % 4294967296; let y1 := y / 4294967296
    x0 * y0 ≤ 18446744065119617025 ∧ x1 * y0 ≤ 18446744065119617025 ∧ x0 * y1 ≤ 18446744065119617025 ∧ x1 * y1 ≤ 18446744065119617025 ∧ x * y = x0 * y0 + 4294967296 * (x1 * y0 + x0 * y1) + 18446744073709551616 * (x1 * y1) := by
  intro x0 x1 y0 y1
  have hx0 : x0 ≤ 4294967295 := by show x % 4294967296 ≤ _; omega
  have hx1 : x1 ≤ 4294967295 := by show x / 4294967296 ≤ _; omega
  have hy0 : y0 ≤ 4294967295 := by show y % 4294967296 ≤ _; omega
  have hy1 : y1 ≤ 4294967295 := by show y / 4294967296 ≤ _; omega
  refine ⟨Nat.mul_le_mul hx0 hy0, Nat.mul_le_mul hx1 hy0, Nat.mul_le_mul hx0 hy1, Nat.mul_le_mul hx1 hy1, ?_⟩
  have ex : x = x0 + 4294967296 * x1 := by show x = x % 4294967296 + 4294967296 * (x / 4294967296); omega
  have ey : y = y0 + 4294967296 * y1 := by show y = y % 4294967296 + 4294967296 * (y / 4294967296); omega
  rw [ex, ey]
  simp only [Nat.add_mul, Nat.mul_add]
  have e1 : 4294967296 * x1 * (4294967296 * y1) = 18446744073709551616 * (x1 * y1) := by rw [Nat.mul_mul_mul_comm]
  have e2 : 4294967296 * x1 * y0 = 4294967296 * (x1 * y0) := Nat.mul_assoc _ _ _
  have e3 : x0 * (4294967296 * y1) = 4294967296 * (x0 * y1) := Nat.mul_left_comm _ _ _
  rw [e1, e2, e3]; omega
section
variable {P : Program} {h : Hp} (t : TypeId)
theorem and_mask {a : Nat} (ha : a < 18446744073709551616) : binPV P h .and t (.t (.int .u64 (a : Int))) (.t (.int .u64 4294967295)) = some (.t (.int .u64 ((a % 4294967296 : Nat) : Int))) := by
  rw [bin_and]
  have e1 : BitVec.ofInt IntKind.u64.bits (a : Int) = BitVec.ofNat 64 a := ofInt_nat 64 a
  have e2 : BitVec.ofInt IntKind.u64.bits 4294967295 = BitVec.ofNat 64 4294967295 := ofInt_nat 64 4294967295
  rw [e1, e2]
  have e3 : (BitVec.ofNat 64 a &&& BitVec.ofNat 64 4294967295).toNat = a % 4294967296 := by
    rw [BitVec.toNat_and, BitVec.toNat_ofNat, BitVec.toNat_ofNat, Nat.mod_eq_of_lt ha]
    exact Nat.and_two_pow_sub_one_eq_mod a 32
  have e4 : IntKind.u64.wrap (((BitVec.ofNat 64 a &&& BitVec.ofNat 64 4294967295).toNat : Nat) : Int) = ((a % 4294967296 : Nat) : Int) := by
    rw [e3]; exact wrap_u64_lt (by omega)
  exact congrArg (fun z => some (PV.t (.int .u64 z))) e4
end
theorem mul64_d (x y : Nat) (hx : x < 18446744073709551616) (hy : y < 18446744073709551616) : DCall Tryz.prog 268 [.int .u64 (x : Int), .int .u64 (y : Int)] (.tup [.int .u64 ((x * y / 18446744073709551616 : Nat) : Int), .int .u64 ((x * y % 18446744073709551616 : Nat) : Int)]) := by
  obtain ⟨b1, b2, b3, b4, e⟩ := mul64_split x y hx hy
  have mx := and_mask (P := Tryz.prog) (h := fun _ => []) 38 hx
  have my := and_mask (P := Tryz.prog) (h := fun _ => []) 38 hy
  have hlo := u64_mul x y
  rw [e] at hlo ⊢
  clear e hx hy
  have m1 := u64_mul (x % 4294967296) (y % 4294967296)
  have m2 := u64_mul (x / 4294967296) (y % 4294967296)
  have m3 := u64_mul (x % 4294967296) (y / 4294967296)
  have m4 := u64_mul (x / 4294967296) (y / 4294967296)
  generalize x % 4294967296 * (y % 4294967296) = p0 at *
  generalize x / 4294967296 * (y % 4294967296) = p1 at *
  generalize x % 4294967296 * (y / 4294967296) = p2 at *
  generalize x / 4294967296 * (y / 4294967296) = p3 at *
  rw [Nat.mod_eq_of_lt (show p0 < 18446744073709551616 by omega)] at m1
  rw [Nat.mod_eq_of_lt (show p1 < 18446744073709551616 by omega)] at m2
  rw [Nat.mod_eq_of_lt (show p2 < 18446744073709551616 by omega)] at m3
  rw [Nat.mod_eq_of_lt (show p3 < 18446744073709551616 by omega)] at m4
  have s1 := u64_add p1 (p0 / 4294967296)
  rw [Nat.mod_eq_of_lt (by omega)] at s1
  have mw := and_mask (P := Tryz.prog) (h := fun _ => []) 38 (a := p1 + p0 / 4294967296) (by omega)
  have s2 := u64_add ((p1 + p0 / 4294967296) % 4294967296) p2
  rw [Nat.mod_eq_of_lt (show (p1 + p0 / 4294967296) % 4294967296 + p2 < 18446744073709551616 by omega)] at s2
  have s3 := u64_add p3 ((p1 + p0 / 4294967296) / 4294967296)
  rw [Nat.mod_eq_of_lt (by omega)] at s3
  have s4 := u64_add (p3 + (p1 + p0 / 4294967296) / 4294967296) (((p1 + p0 / 4294967296) % 4294967296 + p2) / 4294967296)
  rw [Nat.mod_eq_of_lt (show p3 + (p1 + p0 / 4294967296) / 4294967296 + ((p1 + p0 / 4294967296) % 4294967296 + p2) / 4294967296 < 18446744073709551616 by omega)] at s4
  have eh : (p0 + 4294967296 * (p1 + p2) + 18446744073709551616 * p3) / 18446744073709551616 = p3 + (p1 + p0 / 4294967296) / 4294967296 + ((p1 + p0 / 4294967296) % 4294967296 + p2) / 4294967296 := by omega
  rw [eh]
  clear eh b1 b2 b3 b4
  refine dcall_mk orders Tryz.func268 rfl (by kernel_rfl) noMu (by kernel_rfl) rfl (fun hs => ?_)
  repeat' (first
    | (with_reducible first | refine sA ?_ ?_ | refine sB ?_ ?_ | refine sC ?_ ?_ | refine sD ?_ ?_ | refine sE ?_ ?_ | refine sF ?_ ?_) <;> intro h
    | simp only [go_sem, *])
theorem most_eq : most = 4611686018427387903 := rfl
theorem times_d (a b : Int) (ha : a.natAbs ≤ most) (hb : b.natAbs ≤ most) : DCall Tryz.prog 234 [i64 a, i64 b] (.tup [i64 (if a.natAbs * b.natAbs ≤ most then a * b else 0), .bool (decide (a.natAbs * b.natAbs ≤ most))]) := by
  rw [most_eq] at ha hb ⊢
  have s1 := size_d a ⟨by omega, by omega⟩
  have s2 := size_d b ⟨by omega, by omega⟩
  have s3 := mul64_d a.natAbs b.natAbs (by omega) (by omega)
  have hsgn : a * b = if decide (a < 0) != decide (b < 0) then -((a.natAbs * b.natAbs : Nat) : Int) else ((a.natAbs * b.natAbs : Nat) : Int) := by
    rw [Int.natCast_mul]
    by_cases h1 : a < 0
    · have e1 : ((a.natAbs : Nat) : Int) = -a := by omega
      by_cases h2 : b < 0
      · have e2 : ((b.natAbs : Nat) : Int) = -b := by omega
        simp [h1, h2, e1, e2, Int.neg_mul, Int.mul_neg]
      · have e2 : ((b.natAbs : Nat) : Int) = b := by omega
        simp [h1, h2, e1, e2, Int.neg_mul, Int.mul_neg]
    · have e1 : ((a.natAbs : Nat) : Int) = a := by omega
      by_cases h2 : b < 0
      · have e2 : ((b.natAbs : Nat) : Int) = -b := by omega
        simp [h1, h2, e1, e2, Int.neg_mul, Int.mul_neg]
      · have e2 : ((b.natAbs : Nat) : Int) = b := by omega
        simp [h1, h2, e1, e2, Int.neg_mul, Int.mul_neg]
  rw [hsgn]
  clear hsgn
  generalize a.natAbs * b.natAbs = p at *
  by_cases hp : p ≤ 4611686018427387903
  · have e1 : p / 18446744073709551616 = 0 := by omega
    have e2 : p % 18446744073709551616 = p := by omega
    rw [e1, e2] at s3
    rw [if_pos hp, decide_eq_true hp]
    have g1 : decide (((0 : Nat) : Int) > 0) = false := rfl
    have g2 : decide ((p : Int) > 4611686018427387903) = false := decide_eq_false (by omega)
    have g3 : IntKind.i64.wrap (p : Int) = p := wrap_i64 (by omega) (by omega)
    have g4 : IntKind.i64.wrap (0 - (p : Int)) = -(p : Int) := by rw [show (0 - (p : Int)) = -(p : Int) by omega]; exact wrap_i64 (by omega) (by omega)
    refine dcall_mk orders Tryz.func234 rfl (by kernel_rfl) noMu (by kernel_rfl) rfl (fun hs => ?_)
    clear hs ha hb hp e1 e2
    by_cases hd : (decide (a < 0) != decide (b < 0)) = true
    · rw [if_pos hd]
      repeat' (first
        | (with_reducible first | refine sA ?_ ?_ | refine sB ?_ ?_ | refine sC ?_ ?_ | refine sD ?_ ?_ | refine sE ?_ ?_ | refine sF ?_ ?_) <;> intro h
        | refine clK_mk (s1) rfl ?_
        | refine clK_mk (s2) rfl ?_
        | refine clK_mk (s3) rfl ?_
        | simp only [go_sem, *])
    · rw [if_neg hd]
      have hd' : (decide (a < 0) != decide (b < 0)) = false := by simpa using hd
      clear hd
      repeat' (first
        | (with_reducible first | refine sA ?_ ?_ | refine sB ?_ ?_ | refine sC ?_ ?_ | refine sD ?_ ?_ | refine sE ?_ ?_ | refine sF ?_ ?_) <;> intro h
        | refine clK_mk (s1) rfl ?_
        | refine clK_mk (s2) rfl ?_
        | refine clK_mk (s3) rfl ?_
        | simp only [go_sem, *])
  · rw [if_neg hp, decide_eq_false hp]
    refine dcall_mk orders Tryz.func234 rfl (by kernel_rfl) noMu (by kernel_rfl) rfl (fun hs => ?_)
    clear hs ha hb
    by_cases h0 : p / 18446744073709551616 = 0
    · rw [h0, Nat.mod_eq_of_lt (by omega)] at s3
      have g1 : decide (((0 : Nat) : Int) > 0) = false := rfl
      have g2 : decide ((p : Int) > 4611686018427387903) = true := decide_eq_true (by omega)
      clear h0
      repeat' (first
        | (with_reducible first | refine sA ?_ ?_ | refine sB ?_ ?_ | refine sC ?_ ?_ | refine sD ?_ ?_ | refine sE ?_ ?_ | refine sF ?_ ?_) <;> intro h
        | refine clK_mk (s1) rfl ?_
        | refine clK_mk (s2) rfl ?_
        | refine clK_mk (s3) rfl ?_
        | simp only [go_sem, *])
    · have g1 : decide (((p / 18446744073709551616 : Nat) : Int) > 0) = true := decide_eq_true (by omega)
      clear h0
      generalize p / 18446744073709551616 = u at *
      generalize p % 18446744073709551616 = v at *
      repeat' (first
        | (with_reducible first | refine sA ?_ ?_ | refine sB ?_ ?_ | refine sC ?_ ?_ | refine sD ?_ ?_ | refine sE ?_ ?_ | refine sF ?_ ?_) <;> intro h
        | refine clK_mk (s1) rfl ?_
        | refine clK_mk (s2) rfl ?_
        | refine clK_mk (s3) rfl ?_
        | simp only [go_sem, *])
theorem sgcd_d (a b : Int) (ha : a.natAbs ≤ most) (hb : b.natAbs ≤ most) : DCall Tryz.prog 270 [i64 a, i64 b] (i64 (Int.gcd a b : Nat)) := by
  rw [most_eq] at ha hb
  have s1 := size_d a ⟨by omega, by omega⟩
  have s2 := size_d b ⟨by omega, by omega⟩
  refine dcall_mk orders Tryz.func270 rfl (by kernel_rfl) noMu (by kernel_rfl) rfl (fun hs => ?_)
  clear hs
  repeat' (first
    | (with_reducible first | refine sA ?_ ?_ | refine sB ?_ ?_ | refine sC ?_ ?_ | refine sD ?_ ?_ | refine sE ?_ ?_ | refine sF ?_ ?_) <;> intro h
    | refine clK_mk (s1) rfl ?_
    | refine clK_mk (s2) rfl ?_
    | simp only [go_sem, *])
  refine loop_mk (fun m s' => ∃ x y : Nat, m = y ∧ s'.sl 5 = .t (.int .u64 (x : Int)) ∧ s'.sl 6 = .t (.int .u64 (y : Int)) ∧ x ≤ 4611686018427387903 ∧ y ≤ 4611686018427387903 ∧ Nat.gcd x y = Int.gcd a b) b.natAbs ⟨a.natAbs, b.natAbs, rfl, rfl, rfl, ha, hb, rfl⟩ ?_
  rintro y s' ⟨x, _, rfl, h5, h6, hx, hy, hg⟩ hfr G hG
  clear hfr
  by_cases h0 : y = 0
  · subst h0
    rw [Nat.gcd_zero_right] at hg
    subst hg
    have g1 : decide (((0 : Nat) : Int) > 0) = false := rfl
    have g2 : IntKind.i64.wrap ((Int.gcd a b : Nat) : Int) = (Int.gcd a b : Nat) := wrap_i64 (by omega) (by omega)
    repeat' (first
      | (with_reducible first | refine sA ?_ ?_ | refine sB ?_ ?_ | refine sC ?_ ?_ | refine sD ?_ ?_ | refine sE ?_ ?_ | refine sF ?_ ?_) <;> intro h
      | simp only [go_sem, *])
  · have g1 : decide (((y : Nat) : Int) > 0) = true := decide_eq_true (by omega)
    have g2 : ((y : Nat) : Int) = 0 ↔ False := by simp; omega
    have g3 : (x : Int).tmod (y : Int) = ((x % y : Nat) : Int) := rfl
    have hlt : x % y < y := Nat.mod_lt _ (by omega)
    have hg2 : Nat.gcd y (x % y) = Int.gcd a b := by rw [← hg, Nat.gcd_comm x y, Nat.gcd_rec y x, Nat.gcd_comm]
    repeat' (first
      | (with_reducible first | refine sA ?_ ?_ | refine sB ?_ ?_ | refine sC ?_ ?_ | refine sD ?_ ?_ | refine sE ?_ ?_ | refine sF ?_ ?_) <;> intro h
      | simp only [go_sem, *])
    exact hG (x % y) _ hlt ⟨y, x % y, rfl, rfl, rfl, hy, by omega, hg2⟩
theorem ssmall_d (n d : Int) (hn : n.natAbs ≤ most) (hd : 0 < d) (hd2 : d.natAbs ≤ most) : DCall Tryz.prog 235 [i64 n, i64 d] (encQ (Rat.divInt n d)) := by
  have hg := sgcd_d n d hn hd2
  obtain ⟨e1, e2⟩ := divInt_num (a := n) hd
  have hgp : 0 < Int.gcd n d := Int.gcd_pos_of_ne_zero_right n (by omega)
  have b1 : (n.tdiv (Int.gcd n d)).natAbs ≤ n.natAbs := by rw [Int.natAbs_tdiv]; exact Nat.div_le_self _ _
  have b2 : (d.tdiv (Int.gcd n d)).natAbs ≤ d.natAbs := by rw [Int.natAbs_tdiv]; exact Nat.div_le_self _ _
  have hs : Whole.small (Rat.divInt n d) = true := by
    simp only [Whole.small, Bool.and_eq_true, decide_eq_true_eq]
    rw [e1]
    have : ((Rat.divInt n d).den : Int).natAbs = (Rat.divInt n d).den := Int.natAbs_natCast _
    rw [e2] at this
    omega
  unfold encQ
  rw [ratC_small hs, e1, e2]
  rw [most_eq] at hn hd2
  have g1 : IntKind.i64.wrap (n.tdiv (Int.gcd n d)) = n.tdiv (Int.gcd n d) := wrap_i64 (by omega) (by omega)
  have g2 : IntKind.i64.wrap (d.tdiv (Int.gcd n d)) = d.tdiv (Int.gcd n d) := wrap_i64 (by omega) (by omega)
  have g3 : ((Int.gcd n d : Nat) : Int) = 0 ↔ False := by simp; omega
  clear e1 e2 b1 b2 hs hn hd2 hd hgp
  refine dcall_mk orders Tryz.func235 rfl (by kernel_rfl) (fun d => d == 4) (by kernel_rfl) rfl (fun hs => ?_)
  clear hs
  repeat' (first
    | (with_reducible first | refine sA ?_ ?_ | refine sB ?_ ?_ | refine sC ?_ ?_ | refine sD ?_ ?_ | refine sE ?_ ?_ | refine sF ?_ ?_) <;> intro h
    | refine clK_mk (hg) rfl ?_
    | simp only [go_sem, *])
def qfits (q : Rat) : Prop := (digs q.num.natAbs).length ≤ 100000 ∧ (digs q.den).length ≤ 100000
theorem ratC_of {q : Rat} {A D : Int} (h1 : q.num = A) (h2 : (q.den : Int) = D) : ratC q = if A.natAbs ≤ most ∧ D.natAbs ≤ most then [i64 A, i64 D, .sl false [], .bool false, .sl false [], .bool false] else [i64 0, i64 0] ++ intC true A ++ intC true D := by
  subst h1
  have h3 : D.natAbs = q.den := by rw [← h2]; exact Int.natAbs_natCast _
  have h4 : decide (D < 0) = false := decide_eq_false (by omega)
  by_cases hs : Whole.small q = true
  · obtain ⟨a, b⟩ := small_true hs
    rw [ratC_small hs, if_pos ⟨a, by omega⟩, h2]
  · have hs' : Whole.small q = false := by simpa using hs
    rw [ratC_big hs', if_neg (fun h => hs (by simp only [Whole.small, Bool.and_eq_true, decide_eq_true_eq]; omega))]
    unfold intC
    rw [h3, h4]; rfl
theorem quo_d (a b : Int) (hb : b ≠ 0) (ha : fits a) (hbf : fits b) : DCall Tryz.prog 95 [encI true a, encI true b] (encQ (Rat.divInt a b)) := by
  have main : ∀ a' b' : Int, 0 < b' → fits a' → fits b' → Rat.divInt a b = Rat.divInt a' b' → (b' = b ∧ a' = a ∧ 0 < b ∨ b' = -b ∧ a' = -a ∧ b < 0) → DCall Tryz.prog 95 [encI true a, encI true b] (encQ (Rat.divInt a b)) := by
    intro a' b' hb' fa fb he hcase
    rw [he]
    obtain ⟨e1, e2⟩ := divInt_num (a := a') hb'
    have hgp : 0 < Int.gcd a' b' := Int.gcd_pos_of_ne_zero_right a' (by omega)
    have b1 : (a'.tdiv (Int.gcd a' b')).natAbs ≤ a'.natAbs := by rw [Int.natAbs_tdiv]; exact Nat.div_le_self _ _
    have b2 : (b'.tdiv (Int.gcd a' b')).natAbs ≤ b'.natAbs := by rw [Int.natAbs_tdiv]; exact Nat.div_le_self _ _
    have hgb : Int.gcd a' b' ≤ b'.natAbs := by show Nat.gcd _ _ ≤ _; exact Nat.gcd_le_right _ (by omega)
    have fg : fits (Int.gcd a' b' : Nat) := fits_mono (by omega) fb
    have w1 := gcd_d a' b' fa fb
    have w2 := div_d true true a' (Int.gcd a' b' : Nat) fa fg (by omega)
    have w3 := div_d true true b' (Int.gcd a' b' : Nat) fb fg (by omega)
    have w4 := wsmall_d true (a'.tdiv (Int.gcd a' b')) most (by decide)
    have w5 := wsmall_d true (b'.tdiv (Int.gcd a' b')) most (by decide)
    rw [show ((most : Nat) : Int) = 4611686018427387903 from rfl] at w4 w5
    unfold encQ
    rw [ratC_of e1 e2]
    clear e1 e2 b1 b2 hgb fg he fa fb ha hbf hgp
    generalize a'.tdiv (Int.gcd a' b') = A at *
    generalize b'.tdiv (Int.gcd a' b') = D at *
    generalize a'.tmod (Int.gcd a' b') = A2 at *
    generalize b'.tmod (Int.gcd a' b') = D2 at *
    generalize Int.gcd a' b' = g at *
    have n1 := neg_d true a
    have n2 := neg_d true b
    have sg := sign_d true b
    have hsg : b.sign = if b < 0 then -1 else 1 := by
      split
      · rename_i h; exact Int.sign_eq_neg_one_of_neg h
      · rename_i h; exact Int.sign_eq_one_of_pos (by omega)
    rw [hsg] at sg
    have hgoal : ∀ R : List Tr, (A.natAbs ≤ most ∧ D.natAbs ≤ most → R = [i64 A, i64 D, .sl false [], .bool false, .sl false [], .bool false]) → (¬ (A.natAbs ≤ most ∧ D.natAbs ≤ most) → R = [i64 0, i64 0] ++ intC true A ++ intC true D) → DCall Tryz.prog 95 [encI true a, encI true b] (.agg R) := by
      intro R hR1 hR2
      by_cases hA : A.natAbs ≤ most
      · rw [if_pos hA, decide_eq_true hA] at w4
        by_cases hD : D.natAbs ≤ most
        · rw [if_pos hD, decide_eq_true hD] at w5
          rw [hR1 ⟨hA, hD⟩]
          clear hR1 hR2 hA hD
          rcases hcase with ⟨rfl, rfl, hb0⟩ | ⟨rfl, rfl, hb0⟩
          · rw [if_neg (by omega)] at sg
            clear hb0 hb' hsg hb
            refine dcall_mk orders Tryz.func95 rfl (by kernel_rfl) (fun d => d == 2 || d == 3 || d == 4 || d == 5) (by kernel_rfl) rfl (fun hs => ?_)
            repeat' (first
              | (with_reducible first | refine sA ?_ ?_ | refine sB ?_ ?_ | refine sC ?_ ?_ | refine sD ?_ ?_ | refine sE ?_ ?_ | refine sF ?_ ?_) <;> intro h
              | refine clK_mk (sg) rfl ?_
              | refine clK_mk (w1) rfl ?_
              | refine clK_mk (w2) rfl ?_
              | refine clK_mk (w3) rfl ?_
              | refine clK_mk (w4) rfl ?_
              | refine clK_mk (w5) rfl ?_
              | simp only [go_sem, *])
          · rw [if_pos hb0] at sg
            clear hb0 hb' hsg hb
            refine dcall_mk orders Tryz.func95 rfl (by kernel_rfl) (fun d => d == 2 || d == 3 || d == 4 || d == 5) (by kernel_rfl) rfl (fun hs => ?_)
            repeat' (first
              | (with_reducible first | refine sA ?_ ?_ | refine sB ?_ ?_ | refine sC ?_ ?_ | refine sD ?_ ?_ | refine sE ?_ ?_ | refine sF ?_ ?_) <;> intro h
              | refine clK_mk (sg) rfl ?_
              | refine clK_mk (n1) rfl ?_
              | refine clK_mk (n2) rfl ?_
              | refine clK_mk (w1) rfl ?_
              | refine clK_mk (w2) rfl ?_
              | refine clK_mk (w3) rfl ?_
              | refine clK_mk (w4) rfl ?_
              | refine clK_mk (w5) rfl ?_
              | simp only [go_sem, *])
        · rw [if_neg hD, decide_eq_false hD] at w5
          rw [hR2 (fun h => hD h.2)]
          clear hR1 hR2 hA hD
          rcases hcase with ⟨rfl, rfl, hb0⟩ | ⟨rfl, rfl, hb0⟩
          · rw [if_neg (by omega)] at sg
            clear hb0 hb' hsg hb
            refine dcall_mk orders Tryz.func95 rfl (by kernel_rfl) (fun d => d == 2 || d == 3 || d == 4 || d == 5) (by kernel_rfl) rfl (fun hs => ?_)
            repeat' (first
              | (with_reducible first | refine sA ?_ ?_ | refine sB ?_ ?_ | refine sC ?_ ?_ | refine sD ?_ ?_ | refine sE ?_ ?_ | refine sF ?_ ?_) <;> intro h
              | refine clK_mk (sg) rfl ?_
              | refine clK_mk (w1) rfl ?_
              | refine clK_mk (w2) rfl ?_
              | refine clK_mk (w3) rfl ?_
              | refine clK_mk (w4) rfl ?_
              | refine clK_mk (w5) rfl ?_
              | simp only [go_sem, *])
          · rw [if_pos hb0] at sg
            clear hb0 hb' hsg hb
            refine dcall_mk orders Tryz.func95 rfl (by kernel_rfl) (fun d => d == 2 || d == 3 || d == 4 || d == 5) (by kernel_rfl) rfl (fun hs => ?_)
            repeat' (first
              | (with_reducible first | refine sA ?_ ?_ | refine sB ?_ ?_ | refine sC ?_ ?_ | refine sD ?_ ?_ | refine sE ?_ ?_ | refine sF ?_ ?_) <;> intro h
              | refine clK_mk (sg) rfl ?_
              | refine clK_mk (n1) rfl ?_
              | refine clK_mk (n2) rfl ?_
              | refine clK_mk (w1) rfl ?_
              | refine clK_mk (w2) rfl ?_
              | refine clK_mk (w3) rfl ?_
              | refine clK_mk (w4) rfl ?_
              | refine clK_mk (w5) rfl ?_
              | simp only [go_sem, *])
      · rw [if_neg hA, decide_eq_false hA] at w4
        rw [hR2 (fun h => hA h.1)]
        generalize hq : (if D.natAbs ≤ most then D else 0) = q5 at *
        generalize hq2 : decide (D.natAbs ≤ most) = b5 at *
        clear hR1 hR2 hA hq hq2
        rcases hcase with ⟨rfl, rfl, hb0⟩ | ⟨rfl, rfl, hb0⟩
        · rw [if_neg (by omega)] at sg
          clear hb0 hb' hsg hb
          refine dcall_mk orders Tryz.func95 rfl (by kernel_rfl) (fun d => d == 2 || d == 3 || d == 4 || d == 5) (by kernel_rfl) rfl (fun hs => ?_)
          repeat' (first
            | (with_reducible first | refine sA ?_ ?_ | refine sB ?_ ?_ | refine sC ?_ ?_ | refine sD ?_ ?_ | refine sE ?_ ?_ | refine sF ?_ ?_) <;> intro h
            | refine clK_mk (sg) rfl ?_
            | refine clK_mk (w1) rfl ?_
            | refine clK_mk (w2) rfl ?_
            | refine clK_mk (w3) rfl ?_
            | refine clK_mk (w4) rfl ?_
            | refine clK_mk (w5) rfl ?_
            | simp only [go_sem, *])
        · rw [if_pos hb0] at sg
          clear hb0 hb' hsg hb
          refine dcall_mk orders Tryz.func95 rfl (by kernel_rfl) (fun d => d == 2 || d == 3 || d == 4 || d == 5) (by kernel_rfl) rfl (fun hs => ?_)
          repeat' (first
            | (with_reducible first | refine sA ?_ ?_ | refine sB ?_ ?_ | refine sC ?_ ?_ | refine sD ?_ ?_ | refine sE ?_ ?_ | refine sF ?_ ?_) <;> intro h
            | refine clK_mk (sg) rfl ?_
            | refine clK_mk (n1) rfl ?_
            | refine clK_mk (n2) rfl ?_
            | refine clK_mk (w1) rfl ?_
            | refine clK_mk (w2) rfl ?_
            | refine clK_mk (w3) rfl ?_
            | refine clK_mk (w4) rfl ?_
            | refine clK_mk (w5) rfl ?_
            | simp only [go_sem, *])
    exact hgoal _ (fun h => if_pos h) (fun h => if_neg h)
  rcases Int.lt_or_lt_of_ne hb with h | h
  · exact main (-a) (-b) (by omega) (fits_mono (by omega) ha) (fits_mono (by omega) hbf) (Rat.neg_divInt_neg a b).symm (.inr ⟨rfl, rfl, h⟩)
  · exact main a b h ha hbf rfl (.inl ⟨rfl, rfl, h⟩)
end YtajgclnahfmfmaaGreat
end Go.Vm
end
section
set_option linter.unusedSimpArgs false
set_option maxRecDepth 10000
namespace Go.Vm
open Go Go.Proofs Go.Whole
namespace YtajgclnahfmfmaaGreat
open Go.Proofs.Tryz
theorem len_mul {a b m n : Nat} (ha : (digs a).length ≤ m) (hb : (digs b).length ≤ n) : (digs (a * b)).length ≤ m + n := digs_length_le (by
  have h1 := lt_of_digs_length ha
  have h2 := lt_of_digs_length hb
  rw [Nat.pow_add]
  exact Nat.mul_lt_mul'' h1 h2)
theorem len_add {a b n : Nat} (ha : (digs a).length ≤ n) (hb : (digs b).length ≤ n) : (digs (a + b)).length ≤ n + 1 := by
  rcases Nat.le_total a b with h | h
  · exact digs_dbl (by omega) hb
  · exact digs_dbl (b := a) (by omega) ha
theorem fits_i64 {z : Int} (h : inI64 z) : fits z := Nat.le_trans (digs_length_le (k := 2) (by rw [show B ^ 2 = 18446744073709551616 by decide]; obtain ⟨h1, h2⟩ := h; omega)) (by decide)
@[go_sem] theorem dec_zero : decide ((0 : Int) > 0) = false := by decide
attribute [go_sem] List.append_nil
theorem ratC_one (q : Rat) : ((ratC q).map PV.t).all PV.one = true := by unfold ratC; split <;> rfl
@[go_sem] theorem ratC_len (q : Rat) : (ratC q).length = 6 := ratC_length q
@[go_sem] theorem ratC_all (q : Rat) : ((ratC q).map PV.t).all PV.one = true := ratC_one q
@[go_sem] theorem ratC_take (q : Rat) : ((ratC q).map PV.t).take 6 = (ratC q).map PV.t := List.take_of_length_le (by simp [ratC_length])
@[go_sem] theorem ratC_take' (q : Rat) : (ratC q).take 6 = ratC q := List.take_of_length_le (by simp [ratC_length])
attribute [go_sem] encQ
theorem divInt_one (n : Int) : Rat.divInt n 1 = (n : Rat) := by
  have := Rat.divInt_ofNat n 1
  rw [show ((1 : Nat) : Int) = 1 from rfl] at this
  rw [this]
  exact Rat.ext (by rw [Rat.num_mkRat]; simp) (by rw [Rat.den_mkRat]; simp)
theorem whole_d (n : Int) (h : inI64 n) : DCall Tryz.prog 157 [i64 n] (encQ n) := by
  have h1 := of_d n h
  have h2 := of_d 1 ⟨by decide, by decide⟩
  have h3 := quo_d n 1 (by decide) (fits_i64 h) (fits_i64 ⟨by decide, by decide⟩)
  rw [divInt_one] at h3
  refine dcall_mk orders Tryz.func157 rfl (by kernel_rfl) (fun d => d == 2) (by kernel_rfl) rfl (fun hs => ?_)
  clear hs
  repeat' (first
    | (with_reducible first | refine sA ?_ ?_ | refine sB ?_ ?_ | refine sC ?_ ?_ | refine sD ?_ ?_ | refine sE ?_ ?_ | refine sF ?_ ?_) <;> intro h
    | refine clK_mk (h1) rfl ?_
    | refine clK_mk (h2) rfl ?_
    | refine clK_mk (h3) rfl ?_
    | simp only [go_sem, *])
theorem num_d (q : Rat) : DCall Tryz.prog 164 [encQ q] (encI true q.num) := by
  unfold encQ
  by_cases hs : Whole.small q = true
  · obtain ⟨h1, h2⟩ := small_true hs
    rw [most_eq] at h1
    have o := of_d q.num ⟨by omega, by omega⟩
    have hp := q.den_pos
    have g : decide ((q.den : Int) > 0) = true := decide_eq_true (by omega)
    rw [ratC_small hs]
    refine dcall_mk orders Tryz.func164 rfl (by kernel_rfl) (fun d => d == 2) (by kernel_rfl) rfl (fun hs => ?_)
    clear hs h1 h2
    repeat' (first
      | (with_reducible first | refine sA ?_ ?_ | refine sB ?_ ?_ | refine sC ?_ ?_ | refine sD ?_ ?_ | refine sE ?_ ?_ | refine sF ?_ ?_) <;> intro h
      | refine clK_mk (o) rfl ?_
      | simp only [go_sem, *])
  · rw [ratC_big (by simpa using hs)]
    refine dcall_mk orders Tryz.func164 rfl (by kernel_rfl) (fun d => d == 2) (by kernel_rfl) rfl (fun hs => ?_)
    clear hs
    repeat' (first
      | (with_reducible first | refine sA ?_ ?_ | refine sB ?_ ?_ | refine sC ?_ ?_ | refine sD ?_ ?_ | refine sE ?_ ?_ | refine sF ?_ ?_) <;> intro h
      | simp only [go_sem, *])
theorem den_d (q : Rat) : DCall Tryz.prog 165 [encQ q] (encI true (q.den : Int)) := by
  unfold encQ
  by_cases hs : Whole.small q = true
  · obtain ⟨h1, h2⟩ := small_true hs
    rw [most_eq] at h2
    have o := of_d (q.den : Int) ⟨by omega, by omega⟩
    have hp := q.den_pos
    have g : decide ((q.den : Int) > 0) = true := decide_eq_true (by omega)
    rw [ratC_small hs]
    refine dcall_mk orders Tryz.func165 rfl (by kernel_rfl) (fun d => d == 2) (by kernel_rfl) rfl (fun hs => ?_)
    clear hs h1 h2
    repeat' (first
      | (with_reducible first | refine sA ?_ ?_ | refine sB ?_ ?_ | refine sC ?_ ?_ | refine sD ?_ ?_ | refine sE ?_ ?_ | refine sF ?_ ?_) <;> intro h
      | refine clK_mk (o) rfl ?_
      | simp only [go_sem, *])
  · rw [ratC_big (by simpa using hs)]
    have e1 : ((q.den : Int)).natAbs = q.den := Int.natAbs_natCast _
    have e2 : decide ((q.den : Int) < 0) = false := decide_eq_false (by omega)
    refine dcall_mk orders Tryz.func165 rfl (by kernel_rfl) (fun d => d == 2) (by kernel_rfl) rfl (fun hs => ?_)
    clear hs
    repeat' (first
      | (with_reducible first | refine sA ?_ ?_ | refine sB ?_ ?_ | refine sC ?_ ?_ | refine sD ?_ ?_ | refine sE ?_ ?_ | refine sF ?_ ?_) <;> intro h
      | simp only [go_sem, *])
theorem qsign_d (q : Rat) : DCall Tryz.prog 83 [encQ q] (i64 q.num.sign) := by
  unfold encQ
  by_cases hs : Whole.small q = true
  · have hp := q.den_pos
    have g : ((q.den : Int) == 0) = false := by simp; omega
    rw [ratC_small hs]
    clear hs
    rcases Int.lt_trichotomy q.num 0 with h | h | h
    · rw [Int.sign_eq_neg_one_of_neg h]
      have g1 : decide (q.num < 0) = true := decide_eq_true h
      clear h
      refine dcall_mk orders Tryz.func83 rfl (by kernel_rfl) noMu (by kernel_rfl) rfl (fun hs => ?_)
      repeat' (first
        | (with_reducible first | refine sA ?_ ?_ | refine sB ?_ ?_ | refine sC ?_ ?_ | refine sD ?_ ?_ | refine sE ?_ ?_ | refine sF ?_ ?_) <;> intro h
        | simp only [go_sem, *])
    · rw [h]
      refine dcall_mk orders Tryz.func83 rfl (by kernel_rfl) noMu (by kernel_rfl) rfl (fun hs => ?_)
      have g1 : decide ((0 : Int) < 0) = false := rfl
      have g2 : decide ((0 : Int) > 0) = false := rfl
      repeat' (first
        | (with_reducible first | refine sA ?_ ?_ | refine sB ?_ ?_ | refine sC ?_ ?_ | refine sD ?_ ?_ | refine sE ?_ ?_ | refine sF ?_ ?_) <;> intro h
        | simp only [go_sem, *])
      all_goals rfl
    · rw [Int.sign_eq_one_of_pos h]
      have g1 : decide (q.num < 0) = false := decide_eq_false (by omega)
      have g2 : decide (q.num > 0) = true := decide_eq_true h
      clear h
      refine dcall_mk orders Tryz.func83 rfl (by kernel_rfl) noMu (by kernel_rfl) rfl (fun hs => ?_)
      repeat' (first
        | (with_reducible first | refine sA ?_ ?_ | refine sB ?_ ?_ | refine sC ?_ ?_ | refine sD ?_ ?_ | refine sE ?_ ?_ | refine sF ?_ ?_) <;> intro h
        | simp only [go_sem, *])
  · rw [ratC_big (by simpa using hs)]
    have sg := sign_d true q.num
    refine dcall_mk orders Tryz.func83 rfl (by kernel_rfl) noMu (by kernel_rfl) rfl (fun hs => ?_)
    clear hs
    repeat' (first
      | (with_reducible first | refine sA ?_ ?_ | refine sB ?_ ?_ | refine sC ?_ ?_ | refine sD ?_ ?_ | refine sE ?_ ?_ | refine sF ?_ ?_) <;> intro h
      | refine clK_mk (sg) rfl ?_
      | simp only [go_sem, *])
theorem add_eq (p q : Rat) : p + q = Rat.divInt (p.num * q.den + q.num * p.den) ((p.den : Int) * q.den) := by
  rw [Rat.add_def', ← Rat.divInt_ofNat, Int.natCast_mul]
theorem mul_eq (p q : Rat) : p * q = Rat.divInt (p.num * q.num) ((p.den : Int) * q.den) := by
  rw [Rat.mul_def', ← Rat.divInt_ofNat, Int.natCast_mul]
structure Slow (p q : Rat) : Prop where
  m1 : fits (p.num * q.den)
  m2 : fits (q.num * p.den)
  m3 : fits ((p.den : Int) * q.den)
  s : fits (p.num * q.den + q.num * p.den)
  np : fits p.num
  nq : fits q.num
  dp : fits (p.den : Int)
  dq : fits (q.den : Int)
  m4 : fits (p.num * q.num)
theorem slow {p q : Rat} (hp : qfits p) (hq : qfits q) : Slow p q := by
  obtain ⟨h1, h2⟩ := hp
  obtain ⟨h3, h4⟩ := hq
  have a1 := len_mul h1 h4
  have a2 := len_mul h3 h2
  have a3 := len_mul h2 h4
  have a4 := len_mul h1 h3
  have e1 : (p.num * q.den).natAbs = p.num.natAbs * q.den := by rw [Int.natAbs_mul, Int.natAbs_natCast]
  have e2 : (q.num * p.den).natAbs = q.num.natAbs * p.den := by rw [Int.natAbs_mul, Int.natAbs_natCast]
  have e3 : ((p.den : Int) * q.den).natAbs = p.den * q.den := by rw [Int.natAbs_mul, Int.natAbs_natCast, Int.natAbs_natCast]
  have e4 : (p.num * q.num).natAbs = p.num.natAbs * q.num.natAbs := Int.natAbs_mul _ _
  have a5 := len_add a1 a2
  refine ⟨?_, ?_, ?_, ?_, Nat.le_trans h1 (by decide), Nat.le_trans h3 (by decide), ?_, ?_, ?_⟩
  · unfold fits; rw [e1]; omega
  · unfold fits; rw [e2]; omega
  · unfold fits; rw [e3]; omega
  · unfold fits
    have := digs_length_mono (a := (p.num * q.den + q.num * p.den).natAbs) (b := p.num.natAbs * q.den + q.num.natAbs * p.den) (by rw [← e1, ← e2]; omega)
    omega
  · unfold fits; rw [Int.natAbs_natCast]; omega
  · unfold fits; rw [Int.natAbs_natCast]; omega
  · unfold fits; rw [e4]; omega
theorem dens_ne (p q : Rat) : (p.den : Int) * q.den ≠ 0 := by
  have h1 := p.den_pos
  have h2 := q.den_pos
  have := Nat.mul_pos h1 h2
  rw [← Int.natCast_mul]; omega
theorem qadd_d (p q : Rat) (hp : qfits p) (hq : qfits q) : DCall Tryz.prog 181 [encQ p, encQ q] (encQ (p + q)) := by
  have sl := slow hp hq
  have n1 := num_d p
  have n2 := num_d q
  have d1 := den_d p
  have d2 := den_d q
  have m1 := mul_d true true p.num (q.den : Int) sl.np sl.dq
  have m2 := mul_d true true q.num (p.den : Int) sl.nq sl.dp
  have m3 := mul_d true true (p.den : Int) (q.den : Int) sl.dp sl.dq
  have ad := add_d true true _ _ sl.m1 sl.m2
  have qu := quo_d _ _ (dens_ne p q) sl.s sl.m3
  rw [← add_eq] at qu
  have pp := p.den_pos
  have pq := q.den_pos
  have g1 : decide ((p.den : Int) > 0) = true := decide_eq_true (by omega)
  have g2 : decide ((q.den : Int) > 0) = true := decide_eq_true (by omega)
  -- the ways
  by_cases hsp : Whole.small p = true
  · obtain ⟨a1, a2⟩ := small_true hsp
    by_cases hsq : Whole.small q = true
    · obtain ⟨b1, b2⟩ := small_true hsq
      have t1 := times_d p.num (q.den : Int) a1 (by rw [Int.natAbs_natCast]; exact b2)
      have t2 := times_d q.num (p.den : Int) b1 (by rw [Int.natAbs_natCast]; exact a2)
      have t3 := times_d (p.den : Int) (q.den : Int) (by rw [Int.natAbs_natCast]; exact a2) (by rw [Int.natAbs_natCast]; exact b2)
      have sm : (p.num * q.den + q.num * p.den).natAbs ≤ most → ((p.den : Int) * q.den).natAbs ≤ most → DCall Tryz.prog 235 [i64 (p.num * q.den + q.num * p.den), i64 ((p.den : Int) * q.den)] (encQ (p + q)) := fun h1 h2 => by
        rw [add_eq]; exact ssmall_d _ _ h1 (by have := Nat.mul_pos pp pq; rw [← Int.natCast_mul]; omega) h2
      rw [← Int.natAbs_mul] at t1 t2 t3
      unfold encQ at n1 n2 d1 d2
      rw [ratC_small hsp] at n1 d1
      rw [ratC_small hsq] at n2 d2
      have hgoal : ∀ R : Tr, R = encQ (p + q) → DCall Tryz.prog 181 [.agg [.int .i64 p.num, .int .i64 p.den, .sl false [], .bool false, .sl false [], .bool false], .agg [.int .i64 q.num, .int .i64 q.den, .sl false [], .bool false, .sl false [], .bool false]] R := by
        intro R hR
        subst hR
        clear hsp hsq a1 a2 b1 b2 hp hq sl pp pq
        generalize p.num * (q.den : Int) = x at *
        generalize q.num * (p.den : Int) = y at *
        generalize (p.den : Int) * (q.den : Int) = z at *
        by_cases cx : x.natAbs ≤ most
        · rw [if_pos cx, decide_eq_true cx] at t1
          by_cases cy : y.natAbs ≤ most
          · rw [if_pos cy, decide_eq_true cy] at t2
            have w : IntKind.i64.wrap (x + y) = x + y := wrap_i64 (by rw [most_eq] at cx cy; omega) (by rw [most_eq] at cx cy; omega)
            by_cases cz : z.natAbs ≤ most
            · rw [if_pos cz, decide_eq_true cz] at t3
              by_cases cl : x + y ≥ -4611686018427387903
              · have v1 : decide (x + y ≥ -4611686018427387903) = true := decide_eq_true cl
                by_cases ch : x + y ≤ 4611686018427387903
                · have v2 : decide (x + y ≤ 4611686018427387903) = true := decide_eq_true ch
                  have sm' := sm (by rw [most_eq]; omega) cz
                  clear sm cx cy cz cl ch
                  refine dcall_mk orders Tryz.func181 rfl (by kernel_rfl) (fun d => d == 4) (by kernel_rfl) rfl (fun hs => ?_)
                  repeat' (first
                    | (with_reducible first | refine sA ?_ ?_ | refine sB ?_ ?_ | refine sC ?_ ?_ | refine sD ?_ ?_ | refine sE ?_ ?_ | refine sF ?_ ?_) <;> intro h
                    | refine clK_mk (t1) rfl ?_
                    | refine clK_mk (t2) rfl ?_
                    | refine clK_mk (t3) rfl ?_
                    | refine clK_mk (sm') rfl ?_
                    | simp only [go_sem, *])
                · have v2 : decide (x + y ≤ 4611686018427387903) = false := decide_eq_false ch
                  clear sm cx cy cz cl ch
                  refine dcall_mk orders Tryz.func181 rfl (by kernel_rfl) (fun d => d == 4) (by kernel_rfl) rfl (fun hs => ?_)
                  repeat' (first
                    | (with_reducible first | refine sA ?_ ?_ | refine sB ?_ ?_ | refine sC ?_ ?_ | refine sD ?_ ?_ | refine sE ?_ ?_ | refine sF ?_ ?_) <;> intro h
                    | refine clK_mk (t1) rfl ?_
                    | refine clK_mk (t2) rfl ?_
                    | refine clK_mk (t3) rfl ?_
                    | refine clK_mk (n1) rfl ?_
                    | refine clK_mk (n2) rfl ?_
                    | refine clK_mk (d1) rfl ?_
                    | refine clK_mk (d2) rfl ?_
                    | refine clK_mk (m1) rfl ?_
                    | refine clK_mk (m2) rfl ?_
                    | refine clK_mk (m3) rfl ?_
                    | refine clK_mk (ad) rfl ?_
                    | refine clK_mk (qu) rfl ?_
                    | simp only [go_sem, *])
              · have v1 : decide (x + y ≥ -4611686018427387903) = false := decide_eq_false cl
                clear sm cx cy cz cl
                refine dcall_mk orders Tryz.func181 rfl (by kernel_rfl) (fun d => d == 4) (by kernel_rfl) rfl (fun hs => ?_)
                repeat' (first
                  | (with_reducible first | refine sA ?_ ?_ | refine sB ?_ ?_ | refine sC ?_ ?_ | refine sD ?_ ?_ | refine sE ?_ ?_ | refine sF ?_ ?_) <;> intro h
                  | refine clK_mk (t1) rfl ?_
                  | refine clK_mk (t2) rfl ?_
                  | refine clK_mk (t3) rfl ?_
                  | refine clK_mk (n1) rfl ?_
                  | refine clK_mk (n2) rfl ?_
                  | refine clK_mk (d1) rfl ?_
                  | refine clK_mk (d2) rfl ?_
                  | refine clK_mk (m1) rfl ?_
                  | refine clK_mk (m2) rfl ?_
                  | refine clK_mk (m3) rfl ?_
                  | refine clK_mk (ad) rfl ?_
                  | refine clK_mk (qu) rfl ?_
                  | simp only [go_sem, *])
            · rw [if_neg cz, decide_eq_false cz] at t3
              clear sm cx cy cz
              refine dcall_mk orders Tryz.func181 rfl (by kernel_rfl) (fun d => d == 4) (by kernel_rfl) rfl (fun hs => ?_)
              repeat' (first
                | (with_reducible first | refine sA ?_ ?_ | refine sB ?_ ?_ | refine sC ?_ ?_ | refine sD ?_ ?_ | refine sE ?_ ?_ | refine sF ?_ ?_) <;> intro h
                | refine clK_mk (t1) rfl ?_
                | refine clK_mk (t2) rfl ?_
                | refine clK_mk (t3) rfl ?_
                | refine clK_mk (n1) rfl ?_
                | refine clK_mk (n2) rfl ?_
                | refine clK_mk (d1) rfl ?_
                | refine clK_mk (d2) rfl ?_
                | refine clK_mk (m1) rfl ?_
                | refine clK_mk (m2) rfl ?_
                | refine clK_mk (m3) rfl ?_
                | refine clK_mk (ad) rfl ?_
                | refine clK_mk (qu) rfl ?_
                | simp only [go_sem, *])
          · rw [if_neg cy, decide_eq_false cy] at t2
            clear sm cx cy
            generalize (if z.natAbs ≤ most then z else 0) = z1 at *
            generalize decide (z.natAbs ≤ most) = z2 at *
            refine dcall_mk orders Tryz.func181 rfl (by kernel_rfl) (fun d => d == 4) (by kernel_rfl) rfl (fun hs => ?_)
            repeat' (first
              | (with_reducible first | refine sA ?_ ?_ | refine sB ?_ ?_ | refine sC ?_ ?_ | refine sD ?_ ?_ | refine sE ?_ ?_ | refine sF ?_ ?_) <;> intro h
              | refine clK_mk (t1) rfl ?_
              | refine clK_mk (t2) rfl ?_
              | refine clK_mk (t3) rfl ?_
              | refine clK_mk (n1) rfl ?_
              | refine clK_mk (n2) rfl ?_
              | refine clK_mk (d1) rfl ?_
              | refine clK_mk (d2) rfl ?_
              | refine clK_mk (m1) rfl ?_
              | refine clK_mk (m2) rfl ?_
              | refine clK_mk (m3) rfl ?_
              | refine clK_mk (ad) rfl ?_
              | refine clK_mk (qu) rfl ?_
              | simp only [go_sem, *])
        · rw [if_neg cx, decide_eq_false cx] at t1
          clear sm cx
          generalize (if z.natAbs ≤ most then z else 0) = z1 at *
          generalize decide (z.natAbs ≤ most) = z2 at *
          generalize (if y.natAbs ≤ most then y else 0) = y1 at *
          generalize decide (y.natAbs ≤ most) = y2 at *
          refine dcall_mk orders Tryz.func181 rfl (by kernel_rfl) (fun d => d == 4) (by kernel_rfl) rfl (fun hs => ?_)
          repeat' (first
            | (with_reducible first | refine sA ?_ ?_ | refine sB ?_ ?_ | refine sC ?_ ?_ | refine sD ?_ ?_ | refine sE ?_ ?_ | refine sF ?_ ?_) <;> intro h
            | refine clK_mk (t1) rfl ?_
            | refine clK_mk (t2) rfl ?_
            | refine clK_mk (t3) rfl ?_
            | refine clK_mk (n1) rfl ?_
            | refine clK_mk (n2) rfl ?_
            | refine clK_mk (d1) rfl ?_
            | refine clK_mk (d2) rfl ?_
            | refine clK_mk (m1) rfl ?_
            | refine clK_mk (m2) rfl ?_
            | refine clK_mk (m3) rfl ?_
            | refine clK_mk (ad) rfl ?_
            | refine clK_mk (qu) rfl ?_
            | simp only [go_sem, *])
      have := hgoal _ rfl
      unfold encQ at this ⊢
      rw [ratC_small hsp, ratC_small hsq]
      exact this
    · have hsq' : Whole.small q = false := by simpa using hsq
      unfold encQ at n1 n2 d1 d2 qu ⊢
      rw [ratC_small hsp] at n1 d1 ⊢
      rw [ratC_big hsq'] at n2 d2 ⊢
      clear hsp hsq hsq' a1 a2 hp hq sl pp pq
      generalize p.num * (q.den : Int) = x at *
      generalize q.num * (p.den : Int) = y at *
      generalize (p.den : Int) * (q.den : Int) = z at *
      clear g2
      refine dcall_mk orders Tryz.func181 rfl (by kernel_rfl) (fun d => d == 4) (by kernel_rfl) rfl (fun hs => ?_)
      repeat' (first
        | (with_reducible first | refine sA ?_ ?_ | refine sB ?_ ?_ | refine sC ?_ ?_ | refine sD ?_ ?_ | refine sE ?_ ?_ | refine sF ?_ ?_) <;> intro h
        | refine clK_mk (n1) rfl ?_
        | refine clK_mk (n2) rfl ?_
        | refine clK_mk (d1) rfl ?_
        | refine clK_mk (d2) rfl ?_
        | refine clK_mk (m1) rfl ?_
        | refine clK_mk (m2) rfl ?_
        | refine clK_mk (m3) rfl ?_
        | refine clK_mk (ad) rfl ?_
        | refine clK_mk (qu) rfl ?_
        | simp only [go_sem, *])
  · have hsp' : Whole.small p = false := by simpa using hsp
    unfold encQ at n1 n2 d1 d2 qu ⊢
    rw [ratC_big hsp'] at n1 d1 ⊢
    clear hsp hsp' hp hq sl pp pq
    generalize p.num * (q.den : Int) = x at *
    generalize q.num * (p.den : Int) = y at *
    generalize (p.den : Int) * (q.den : Int) = z at *
    clear g1 g2
    refine dcall_mk orders Tryz.func181 rfl (by kernel_rfl) (fun d => d == 4) (by kernel_rfl) rfl (fun hs => ?_)
    repeat' (first
      | (with_reducible first | refine sA ?_ ?_ | refine sB ?_ ?_ | refine sC ?_ ?_ | refine sD ?_ ?_ | refine sE ?_ ?_ | refine sF ?_ ?_) <;> intro h
      | refine clK_mk (n1) rfl ?_
      | refine clK_mk (n2) rfl ?_
      | refine clK_mk (d1) rfl ?_
      | refine clK_mk (d2) rfl ?_
      | refine clK_mk (m1) rfl ?_
      | refine clK_mk (m2) rfl ?_
      | refine clK_mk (m3) rfl ?_
      | refine clK_mk (ad) rfl ?_
      | refine clK_mk (qu) rfl ?_
      | simp only [go_sem, *])
end YtajgclnahfmfmaaGreat
end Go.Vm
end
section
set_option linter.unusedSimpArgs false
set_option maxRecDepth 10000
namespace Go.Vm
open Go Go.Proofs Go.Whole
namespace YtajgclnahfmfmaaGreat
open Go.Proofs.Tryz
theorem qmul_d (p q : Rat) (hp : qfits p) (hq : qfits q) : DCall Tryz.prog 162 [encQ p, encQ q] (encQ (p * q)) := by
  have sl := slow hp hq
  have n1 := num_d p
  have n2 := num_d q
  have d1 := den_d p
  have d2 := den_d q
  have m1 := mul_d true true p.num q.num sl.np sl.nq
  have m3 := mul_d true true (p.den : Int) (q.den : Int) sl.dp sl.dq
  have qu := quo_d _ _ (dens_ne p q) sl.m4 sl.m3
  rw [← mul_eq] at qu
  have pp := p.den_pos
  have pq := q.den_pos
  have g1 : decide ((p.den : Int) > 0) = true := decide_eq_true (by omega)
  have g2 : decide ((q.den : Int) > 0) = true := decide_eq_true (by omega)
  by_cases hsp : Whole.small p = true
  · obtain ⟨a1, a2⟩ := small_true hsp
    by_cases hsq : Whole.small q = true
    · obtain ⟨b1, b2⟩ := small_true hsq
      have t1 := times_d p.num q.num a1 b1
      have t3 := times_d (p.den : Int) (q.den : Int) (by rw [Int.natAbs_natCast]; exact a2) (by rw [Int.natAbs_natCast]; exact b2)
      have sm : (p.num * q.num).natAbs ≤ most → ((p.den : Int) * q.den).natAbs ≤ most → DCall Tryz.prog 235 [i64 (p.num * q.num), i64 ((p.den : Int) * q.den)] (encQ (p * q)) := fun h1 h2 => by
        rw [mul_eq]; exact ssmall_d _ _ h1 (by have := Nat.mul_pos pp pq; rw [← Int.natCast_mul]; omega) h2
      rw [← Int.natAbs_mul] at t1 t3
      unfold encQ at n1 n2 d1 d2 qu sm ⊢
      rw [ratC_small hsp] at n1 d1 ⊢
      rw [ratC_small hsq] at n2 d2 ⊢
      clear hsp hsq a1 a2 b1 b2 hp hq sl pp pq
      generalize p.num * q.num = x at *
      generalize (p.den : Int) * (q.den : Int) = z at *
      by_cases cx : x.natAbs ≤ most
      · rw [if_pos cx, decide_eq_true cx] at t1
        by_cases cz : z.natAbs ≤ most
        · rw [if_pos cz, decide_eq_true cz] at t3
          have sm' := sm cx cz
          clear sm cx cz
          refine dcall_mk orders Tryz.func162 rfl (by kernel_rfl) (fun d => d == 4) (by kernel_rfl) rfl (fun hs => ?_)
          repeat' (first
            | (with_reducible first | refine sA ?_ ?_ | refine sB ?_ ?_ | refine sC ?_ ?_ | refine sD ?_ ?_ | refine sE ?_ ?_ | refine sF ?_ ?_) <;> intro h
            | refine clK_mk (t1) rfl ?_
            | refine clK_mk (t3) rfl ?_
            | refine clK_mk (sm') rfl ?_
            | simp only [go_sem, *])
        · rw [if_neg cz, decide_eq_false cz] at t3
          clear sm cx cz
          refine dcall_mk orders Tryz.func162 rfl (by kernel_rfl) (fun d => d == 4) (by kernel_rfl) rfl (fun hs => ?_)
          repeat' (first
            | (with_reducible first | refine sA ?_ ?_ | refine sB ?_ ?_ | refine sC ?_ ?_ | refine sD ?_ ?_ | refine sE ?_ ?_ | refine sF ?_ ?_) <;> intro h
            | refine clK_mk (t1) rfl ?_
            | refine clK_mk (t3) rfl ?_
            | refine clK_mk (n1) rfl ?_
            | refine clK_mk (n2) rfl ?_
            | refine clK_mk (d1) rfl ?_
            | refine clK_mk (d2) rfl ?_
            | refine clK_mk (m1) rfl ?_
            | refine clK_mk (m3) rfl ?_
            | refine clK_mk (qu) rfl ?_
            | simp only [go_sem, *])
      · rw [if_neg cx, decide_eq_false cx] at t1
        clear sm cx
        generalize (if z.natAbs ≤ most then z else 0) = z1 at *
        generalize decide (z.natAbs ≤ most) = z2 at *
        refine dcall_mk orders Tryz.func162 rfl (by kernel_rfl) (fun d => d == 4) (by kernel_rfl) rfl (fun hs => ?_)
        repeat' (first
          | (with_reducible first | refine sA ?_ ?_ | refine sB ?_ ?_ | refine sC ?_ ?_ | refine sD ?_ ?_ | refine sE ?_ ?_ | refine sF ?_ ?_) <;> intro h
          | refine clK_mk (t1) rfl ?_
          | refine clK_mk (t3) rfl ?_
          | refine clK_mk (n1) rfl ?_
          | refine clK_mk (n2) rfl ?_
          | refine clK_mk (d1) rfl ?_
          | refine clK_mk (d2) rfl ?_
          | refine clK_mk (m1) rfl ?_
          | refine clK_mk (m3) rfl ?_
          | refine clK_mk (qu) rfl ?_
          | simp only [go_sem, *])
    · have hsq' : Whole.small q = false := by simpa using hsq
      unfold encQ at n1 n2 d1 d2 qu ⊢
      rw [ratC_small hsp] at n1 d1 ⊢
      rw [ratC_big hsq'] at n2 d2 ⊢
      clear hsp hsq hsq' a1 a2 hp hq sl pp pq g2
      generalize p.num * q.num = x at *
      generalize (p.den : Int) * (q.den : Int) = z at *
      refine dcall_mk orders Tryz.func162 rfl (by kernel_rfl) (fun d => d == 4) (by kernel_rfl) rfl (fun hs => ?_)
      repeat' (first
        | (with_reducible first | refine sA ?_ ?_ | refine sB ?_ ?_ | refine sC ?_ ?_ | refine sD ?_ ?_ | refine sE ?_ ?_ | refine sF ?_ ?_) <;> intro h
        | refine clK_mk (n1) rfl ?_
        | refine clK_mk (n2) rfl ?_
        | refine clK_mk (d1) rfl ?_
        | refine clK_mk (d2) rfl ?_
        | refine clK_mk (m1) rfl ?_
        | refine clK_mk (m3) rfl ?_
        | refine clK_mk (qu) rfl ?_
        | simp only [go_sem, *])
  · have hsp' : Whole.small p = false := by simpa using hsp
    unfold encQ at n1 n2 d1 d2 qu ⊢
    rw [ratC_big hsp'] at n1 d1 ⊢
    clear hsp hsp' hp hq sl pp pq g1 g2
    generalize p.num * q.num = x at *
    generalize (p.den : Int) * (q.den : Int) = z at *
    refine dcall_mk orders Tryz.func162 rfl (by kernel_rfl) (fun d => d == 4) (by kernel_rfl) rfl (fun hs => ?_)
    repeat' (first
      | (with_reducible first | refine sA ?_ ?_ | refine sB ?_ ?_ | refine sC ?_ ?_ | refine sD ?_ ?_ | refine sE ?_ ?_ | refine sF ?_ ?_) <;> intro h
      | refine clK_mk (n1) rfl ?_
      | refine clK_mk (n2) rfl ?_
      | refine clK_mk (d1) rfl ?_
      | refine clK_mk (d2) rfl ?_
      | refine clK_mk (m1) rfl ?_
      | refine clK_mk (m3) rfl ?_
      | refine clK_mk (qu) rfl ?_
      | simp only [go_sem, *])
end YtajgclnahfmfmaaGreat
end Go.Vm
end
section
set_option linter.unusedSimpArgs false
set_option maxRecDepth 10000
namespace Go.Vm
open Go Go.Proofs Go.Whole
namespace YtajgclnahfmfmaaGreat
open Go.Proofs.Tryz
attribute [go_sem] Tryz.results87 Tryz.results172 Tryz.results91 Tryz.results174 Tryz.results173 Tryz.results90 Tryz.results78 Tryz.results86 Tryz.results167 Tryz.results88 Tryz.results80 Tryz.results33 Tryz.results171
def natT (nn : Bool) (n : Nat) : Tr := .sl nn (dl (digs n))
end YtajgclnahfmfmaaGreat
end Go.Vm
end
section
set_option linter.unusedSimpArgs false
set_option maxRecDepth 10000
namespace Go.Vm
open Go Go.Proofs Go.Whole
namespace YtajgclnahfmfmaaGreat
open Go.Proofs.Tryz
attribute [go_sem] natT
end YtajgclnahfmfmaaGreat
end Go.Vm
end
section
set_option linter.unusedSimpArgs false
set_option maxRecDepth 10000
namespace Go.Vm
open Go Go.Proofs Go.Whole
theorem flat_cons (x : Tr) (l : List Tr) : flat (x :: l) = x.cells ++ flat l := rfl
theorem flat_split {l : List Tr} {k : Nat} {x : Tr} (hx : l[k]? = some x) : flat l = flat (l.take k) ++ (x.cells ++ flat (l.drop (k + 1))) := by
  have hk := (List.getElem?_eq_some_iff.1 hx).1
  have hv := (List.getElem?_eq_some_iff.1 hx).2
  conv => lhs; rw [← List.take_append_drop k l, flat_append, List.drop_eq_getElem_cons hk, hv, flat_cons]
theorem flat_take_len {l : List Tr} {esz : Nat} (he : ∀ y ∈ l, y.cells.length = esz) {k : Nat} (hk : k ≤ l.length) : (flat (l.take k)).length = k * esz := by
  rw [flat_length _ esz (fun y hy => he y (List.mem_of_mem_take hy)), List.length_take, Nat.min_eq_left hk]
theorem flat_cells_get {l : List Tr} {esz k : Nat} {x : Tr} (he : ∀ y ∈ l, y.cells.length = esz) (hx : l[k]? = some x) : ((((flat l).map PV.t).drop (k * esz)).take esz) = x.cells.map PV.t := by
  have hk := (List.getElem?_eq_some_iff.1 hx).1
  have hl := flat_take_len he (Nat.le_of_lt hk)
  have hxl := he x (List.mem_of_getElem? hx)
  rw [flat_split hx, List.map_append, List.map_append, List.drop_left' (by simp [hl]), List.take_left' (by simp [hxl])]
theorem flat_set {l : List Tr} {k : Nat} {x y : Tr} (hx : l[k]? = some x) : flat (l.set k y) = flat (l.take k) ++ (y.cells ++ flat (l.drop (k + 1))) := by
  have hk := (List.getElem?_eq_some_iff.1 hx).1
  have h1 : (l.set k y)[k]? = some y := List.getElem?_set_self hk
  rw [flat_split h1, List.take_set_of_le (Nat.le_refl _), List.drop_set_of_lt (by omega)]
theorem flat_splice {l : List Tr} {esz k : Nat} {x y : Tr} (he : ∀ y ∈ l, y.cells.length = esz) (hx : l[k]? = some x) (hy : y.cells.length = esz) : splice ((flat l).map PV.t) (k * esz) (y.cells.map PV.t) = (flat (l.set k y)).map PV.t := by
  have hk := (List.getElem?_eq_some_iff.1 hx).1
  have hl := flat_take_len he (Nat.le_of_lt hk)
  have hxl := he x (List.mem_of_getElem? hx)
  rw [flat_set hx, splice_def', flat_split hx]
  simp only [List.map_append, List.length_map]
  rw [List.take_left' (by simp [hl]), hy, List.append_assoc]
  congr 1
  congr 1
  rw [show k * esz + esz = (flat (l.take k)).length + x.cells.length by rw [hl, hxl], ← List.drop_drop, List.drop_left' (by simp), List.drop_left' (by simp)]
theorem zrow_flat (z : List Tr) : ∀ n, zrow z n = flat (List.replicate n (.agg z))
  | 0 => rfl
  | n + 1 => by rw [zrow, zrow_flat z n, List.replicate_succ, flat_cons]; rfl
theorem toTr_flat {h : Hp} {id : Id} {l : List Tr} {esz n : Nat} {e : TypeId} {lv : Bool} (k : Nat) (hl : ∀ x ∈ l, elemOK true esz x) (hn : l.length = n) (hg : hget h id = some ⟨(flat l).map .t, esz, n, e, true, lv⟩) : toTr h (k + 1) (.rf id n) = some (.sl true l) := by
  rw [toTr_rf', hg]
  subst hn
  simp only [if_true, mapO_t, elems_flat hl]
namespace YtajgclnahfmfmaaGreat
open Go.Proofs.Tryz
structure RInt where
  pn : Bool
  p : Nat
  nn : Bool
  n : Nat
def RInt.cs (x : RInt) : List Tr := [.sl x.pn (dl (digs x.p)), .sl x.nn (dl (digs x.n))]
def RInt.tr (x : RInt) : Tr := .agg x.cs
attribute [go_sem] RInt.cs RInt.tr
def RInt.ok (x : RInt) : Prop := (digs x.p).length ≤ 400000 ∧ (digs x.n).length ≤ 400000
end YtajgclnahfmfmaaGreat
end Go.Vm
end
section
set_option linter.unusedSimpArgs false
set_option maxRecDepth 10000
namespace Go.Vm
open Go Go.Proofs
namespace YtajgclnahfmfmaaGreat
open Go.Proofs.Tryz
attribute [go_sem] Tryz.results68 Tryz.results119 Tryz.results145 Tryz.results200 Tryz.results225 Tryz.results267 Tryz.results146 Tryz.results65 Tryz.results66 Tryz.results44 Tryz.results49 Tryz.results43
theorem get_of_lt {α : Type} (l : List α) (k : Nat) (h : k < l.length) : ∃ v, l[k]? = some v ∧ l.drop k = v :: l.drop (k + 1) := ⟨l[k], List.getElem?_eq_getElem h, List.drop_eq_getElem_cons h⟩
abbrev ints (l : List Int) : List Tr := l.map (Tr.int .i64)
structure GoodT (f : Flow) (t : Trans) : Prop where
  from1 : 0 ≤ t.from_
  from2 : t.from_ < f.locs
  to1 : 0 ≤ t.to_
  to2 : t.to_ < f.locs
  guard : t.guard.length ≤ 16
  right : ∀ r ∈ t.guard, rightB f.vars r = true
  next : (t.next.length : Int) = f.vars
  upd : ∀ u ∈ t.next, updB f.vars u = true
structure GoodF (f : Flow) : Prop where
  vars1 : 0 ≤ f.vars
  vars2 : f.vars ≤ 8
  locs : f.locs ≤ 16
  start1 : 0 ≤ f.start
  start2 : f.start < f.locs
  len : f.trans.length ≤ 32
  all : ∀ t ∈ f.trans, GoodT f t
structure Good (f : Flow) (s : State) : Prop where
  flow : GoodF f
  loc1 : 0 ≤ s.loc
  loc2 : s.loc < f.locs
  vals : (s.vals.length : Int) = f.vars
  word : ∀ v ∈ s.vals, wordB v = true
end YtajgclnahfmfmaaGreat
end Go.Vm
end
section
set_option linter.unusedSimpArgs false
set_option maxRecDepth 10000
namespace Go.Vm
open Go Go.Proofs Go.Whole
namespace YtajgclnahfmfmaaGreat
open Go.Proofs.Tryz
attribute [go_sem] Tryz.results79 Tryz.results27 Tryz.results31 Tryz.results21 Tryz.results26 Tryz.results85 Tryz.results32
abbrev tRow : TypeId := 37
abbrev u64T (n : Nat) : Tr := .int .u64 (n : Int)
def RInt.le (x : RInt) (k : Nat) : Prop := x.p ≤ k * 19342813113834066795298816 ∧ x.n ≤ k * 19342813113834066795298816
theorem RInt.le.ok {x : RInt} {k : Nat} (h : x.le k) (hk : k ≤ 100000) :
    (digs x.p).length ≤ 4 ∧ (digs x.n).length ≤ 4 := by
  obtain ⟨h1, h2⟩ := h
  have h2 : B ^ 2 = 18446744073709551616 := by decide
  have h3 : B ^ 4 = 340282366920938463463374607431768211456 := by
    rw [Nat.pow_succ, Nat.pow_succ, h2, B_eq]
  constructor
  · refine digs_length_le ?_
    rw [h3]; omega
  · refine digs_length_le ?_
    rw [h3]; omega
theorem smallB_abs {c : Int} (h : smallB c = true) : c.natAbs ≤ 1048576 := by
  simp [smallB] at h; omega
theorem digs64 {m : Nat} (hm : m < 18446744073709551616) : (digs m).length ≤ 2 := digs_length_le (by rw [show B ^ 2 = 18446744073709551616 by decide]; exact hm)
end YtajgclnahfmfmaaGreat
end Go.Vm
end
section
set_option linter.unusedSimpArgs false
set_option maxRecDepth 10000
namespace Go.Vm
open Go Go.Proofs Go.Whole
namespace YtajgclnahfmfmaaGreat
open Go.Proofs.Tryz
def sysErr (vars : Int) (rows : List Row) : Int := if decide (vars < 0) || decide (vars > 128) then 2 else if decide ((rows.length : Int) > 256) then 3 else if rows.all (rightB vars) then 0 else 2
structure Sys (V : Nat) (rows : List Row) : Prop where
  v : V ≤ 128
  n : rows.length ≤ 256
  r : ∀ r ∈ rows, r.coefs.length = V ∧ smallB r.const = true ∧ ∀ c ∈ r.coefs, smallB c = true
theorem ok_rows (l : List Row) : ∀ x ∈ l.map Row.tr, elemOK true 2 x := by
  intro x hx
  obtain ⟨y, _, rfl⟩ := List.mem_map.1 hx
  exact ⟨fun _ => rfl, (fun h => nomatch h), rfl⟩
structure Cert where
  scale : Nat
  mnn : Bool
  ms : List Nat
def Cert.tr (f : Cert) : Tr := .agg [.int .u64 (f.scale : Int), .sl f.mnn (f.ms.map u64T)]
attribute [go_sem] Cert.tr
end YtajgclnahfmfmaaGreat
end Go.Vm
end
section
set_option linter.unusedSimpArgs false
set_option maxRecDepth 10000
namespace Go.Vm
open Go Go.Proofs Go.Whole
namespace YtajgclnahfmfmaaGreat
open Go.Proofs.Tryz
attribute [go_sem] Tryz.results36 Tryz.results100 Tryz.results183 Tryz.results101 Tryz.results185 Tryz.results184 Tryz.results242 Tryz.results102 Tryz.results81 Tryz.results37 Tryz.results70 Tryz.results151 Tryz.results182 Tryz.results241
theorem lcheck1_d (vars : Int) (r : Row) : DCall Tryz.prog 151 [r.tr, .ptr [i64 vars]] (.bool (!rightB vars r)) := by
  refine dcall_mk orders Tryz.func151 rfl (by kernel_rfl) noMu (by kernel_rfl) rfl (fun hs => ?_)
  repeat' (first
    | (with_reducible first | refine sA ?_ ?_ | refine sB ?_ ?_ | refine sC ?_ ?_ | refine sD ?_ ?_ | refine sE ?_ ?_ | refine sF ?_ ?_) <;> intro h
    | refine clK_mk (isRow_d vars r) rfl ?_
    | simp only [go_sem, *])
theorem lcheck_d (vars : Int) (rnn : Bool) (rows : List Row) : DCall Tryz.prog 70 [i64 vars, .sl rnn (rows.map Row.tr)] (i64 (sysErr vars rows)) := by
  have hc := containsRows_d rnn rows 151 [.ptr [i64 vars]] (fun x => !rightB vars x) (fun x _ => lcheck1_d vars x)
  rw [any_not] at hc
  refine dcall_mk orders Tryz.func70 rfl (by kernel_rfl) noMu (by kernel_rfl) rfl (fun hs => ?_)
  repeat' (first
    | (with_reducible first | refine sA ?_ ?_ | refine sB ?_ ?_ | refine sC ?_ ?_ | refine sD ?_ ?_ | refine sE ?_ ?_ | refine sF ?_ ?_) <;> intro h
    | refine clK_mk (hc) rfl ?_
    | simp only [go_sem, *])
  try any_goals (refine congrArg some ?_; first | rfl | (simp only [go_sem, sysErr, *]; done) | (simp only [go_sem, sysErr, *]; rfl) | (simp_all [sysErr]; done))
theorem indexU64_d (nn : Bool) (l : List Nat) (g : FuncId) (p : Nat → Bool) (hp : ∀ x ∈ l, DCall Tryz.prog g [u64T x] (.bool (p x))) : DCall Tryz.prog 241 [.sl nn (l.map u64T), .fn g []] (i64 (idxFrom p 0 l)) := by
  refine dcall_mk orders Tryz.func241 rfl (by kernel_rfl) noMu (by kernel_rfl) rfl (fun hs => ?_)
  simp [sizedL, Tr.sized] at hs
  obtain ⟨hs1, _⟩ := hs
  repeat' (first
    | (with_reducible first | refine sA ?_ ?_ | refine sB ?_ ?_ | refine sC ?_ ?_ | refine sD ?_ ?_ | refine sE ?_ ?_ | refine sF ?_ ?_) <;> intro h
    | simp only [go_sem, *])
  refine loop_range l (fun k s' => idxFrom p 0 l = idxFrom p k (l.drop k)) rfl rfl (by first | assumption | omega) (by kernel_rfl) (fun _ _ _ _ hj => hj) (fun _ _ _ hj => hj) ?_ (fun k x s' hx hd hk hJ hix hfr G hG => ?_) (fun s' hJ hfr => ?_)
  · rfl
  · have c0 := hfr 0 (by kernel_rfl)
    have c1 := hfr 1 (by kernel_rfl)
    clear hfr
    simp only [go_sem] at c0 c1
    rw [hd, idxFrom] at hJ
    repeat' (first
      | (with_reducible first | refine sA ?_ ?_ | refine sB ?_ ?_ | refine sC ?_ ?_ | refine sD ?_ ?_ | refine sE ?_ ?_ | refine sF ?_ ?_) <;> intro h
      | refine clK_mk (hp x (List.mem_of_getElem? hx)) rfl ?_
      | simp only [go_sem, *])
    try any_goals (refine congrArg some ?_; first | rfl | (simp only [go_sem, idxFrom, *]; done) | (simp only [go_sem, idxFrom, *]; rfl) | (simp_all [idxFrom]; done))
    try any_goals (refine hG _ ?_; simp only [go_sem, idxFrom, *]; done)
  · simp only [List.drop_length, idxFrom] at hJ
    repeat' (first
      | (with_reducible first | refine sA ?_ ?_ | refine sB ?_ ?_ | refine sC ?_ ?_ | refine sD ?_ ?_ | refine sE ?_ ?_ | refine sF ?_ ?_) <;> intro h
      | simp only [go_sem, *])
theorem multipliers_d (rnn : Bool) (rows : List Row) (mnn : Bool) (ms : List Nat) : DCall Tryz.prog 100 [.sl rnn (rows.map Row.tr), .sl mnn (ms.map u64T)] (i64 (if ms.all (fun m => decide (m ≤ 4611686018427387904)) then 0 else 2)) := by
  have h1 : ∀ x : Nat, DCall Tryz.prog 183 [u64T x] (.bool (!decide (x ≤ 4611686018427387904))) := fun x => by
    rw [show (!decide (x ≤ 4611686018427387904)) = decide ((x : Int) > 4611686018427387904) by rw [Bool.eq_iff_iff]; simp; omega]
    refine dcall_mk orders Tryz.func183 rfl (by kernel_rfl) noMu (by kernel_rfl) rfl (fun hs => ?_)
    repeat' (first
      | (with_reducible first | refine sA ?_ ?_ | refine sB ?_ ?_ | refine sC ?_ ?_ | refine sD ?_ ?_ | refine sE ?_ ?_ | refine sF ?_ ?_) <;> intro h
      | simp only [go_sem, *])
  have h2 := indexU64_d mnn ms 183 (fun x => !decide (x ≤ 4611686018427387904)) (fun x _ => h1 x)
  have h3 : DCall Tryz.prog 182 [.sl mnn (ms.map u64T), .fn 183 []] (.bool (!ms.all (fun m => decide (m ≤ 4611686018427387904)))) := by
    rw [← any_not, ← idxFrom_any _ ms 0]
    refine dcall_mk orders Tryz.func182 rfl (by kernel_rfl) noMu (by kernel_rfl) rfl (fun hs => ?_)
    repeat' (first
      | (with_reducible first | refine sA ?_ ?_ | refine sB ?_ ?_ | refine sC ?_ ?_ | refine sD ?_ ?_ | refine sE ?_ ?_ | refine sF ?_ ?_) <;> intro h
      | refine clK_mk (h2) rfl ?_
      | simp only [go_sem, *])
  generalize ms.all (fun m => decide (m ≤ 4611686018427387904)) = b at *
  cases b with
  | true =>
    refine dcall_mk orders Tryz.func100 rfl (by kernel_rfl) noMu (by kernel_rfl) rfl (fun hs => ?_)
    repeat' (first
      | (with_reducible first | refine sA ?_ ?_ | refine sB ?_ ?_ | refine sC ?_ ?_ | refine sD ?_ ?_ | refine sE ?_ ?_ | refine sF ?_ ?_) <;> intro h
      | refine clK_mk (h3) rfl ?_
      | simp only [go_sem, *])
  | false =>
    refine dcall_mk orders Tryz.func100 rfl (by kernel_rfl) noMu (by kernel_rfl) rfl (fun hs => ?_)
    repeat' (first
      | (with_reducible first | refine sA ?_ ?_ | refine sB ?_ ?_ | refine sC ?_ ?_ | refine sD ?_ ?_ | refine sE ?_ ?_ | refine sF ?_ ?_) <;> intro h
      | refine clK_mk (h3) rfl ?_
      | simp only [go_sem, *])
structure WI where
  nn : Bool
  z : Int
def WI.tr (x : WI) : Tr := encI x.nn x.z
attribute [go_sem] WI.tr
theorem indexW_d (nn : Bool) (l : List WI) (g : FuncId) (p : WI → Bool) (hp : ∀ x ∈ l, DCall Tryz.prog g [x.tr] (.bool (p x))) : DCall Tryz.prog 242 [.sl nn (l.map WI.tr), .fn g []] (i64 (idxFrom p 0 l)) := by
  refine dcall_mk orders Tryz.func242 rfl (by kernel_rfl) noMu (by kernel_rfl) rfl (fun hs => ?_)
  simp [sizedL, Tr.sized] at hs
  obtain ⟨hs1, _⟩ := hs
  repeat' (first
    | (with_reducible first | refine sA ?_ ?_ | refine sB ?_ ?_ | refine sC ?_ ?_ | refine sD ?_ ?_ | refine sE ?_ ?_ | refine sF ?_ ?_) <;> intro h
    | simp only [go_sem, *])
  refine loop_range l (fun k s' => idxFrom p 0 l = idxFrom p k (l.drop k)) rfl rfl (by first | assumption | omega) (by kernel_rfl) (fun _ _ _ _ hj => hj) (fun _ _ _ hj => hj) ?_ (fun k x s' hx hd hk hJ hix hfr G hG => ?_) (fun s' hJ hfr => ?_)
  · rfl
  · have c0 := hfr 0 (by kernel_rfl)
    have c1 := hfr 1 (by kernel_rfl)
    clear hfr
    simp only [go_sem] at c0 c1
    rw [hd, idxFrom] at hJ
    repeat' (first
      | (with_reducible first | refine sA ?_ ?_ | refine sB ?_ ?_ | refine sC ?_ ?_ | refine sD ?_ ?_ | refine sE ?_ ?_ | refine sF ?_ ?_) <;> intro h
      | refine clK_mk (hp x (List.mem_of_getElem? hx)) rfl ?_
      | simp only [go_sem, *])
    try any_goals (refine congrArg some ?_; first | rfl | (simp only [go_sem, idxFrom, *]; done) | (simp only [go_sem, idxFrom, *]; rfl) | (simp_all [idxFrom]; done))
    try any_goals (refine hG _ ?_; simp only [go_sem, idxFrom, *]; done)
  · simp only [List.drop_length, idxFrom] at hJ
    repeat' (first
      | (with_reducible first | refine sA ?_ ?_ | refine sB ?_ ?_ | refine sC ?_ ?_ | refine sD ?_ ?_ | refine sE ?_ ?_ | refine sF ?_ ?_) <;> intro h
      | simp only [go_sem, *])
def contraW (l : List WI) (c : WI) : Bool := decide (c.z < 0) && l.all (fun x => decide (x.z = 0))
theorem contradicts_d (nn : Bool) (l : List WI) (c : WI) : DCall Tryz.prog 101 [.sl nn (l.map WI.tr), c.tr] (.bool (contraW l c)) := by
  have h1 : ∀ x : WI, DCall Tryz.prog 185 [x.tr] (.bool (!decide (x.z = 0))) := fun x => by
    have sg := sign_d x.nn x.z
    have e : (!decide (x.z = 0)) = (x.z.sign != 0) := by
      rw [Bool.eq_iff_iff]; simp [Int.sign_eq_zero_iff_zero]
    rw [e]
    refine dcall_mk orders Tryz.func185 rfl (by kernel_rfl) noMu (by kernel_rfl) rfl (fun hs => ?_)
    clear hs
    repeat' (first
      | (with_reducible first | refine sA ?_ ?_ | refine sB ?_ ?_ | refine sC ?_ ?_ | refine sD ?_ ?_ | refine sE ?_ ?_ | refine sF ?_ ?_) <;> intro h
      | refine clK_mk (sg) rfl ?_
      | simp only [go_sem, *])
  have h2 := indexW_d nn l 185 (fun x => !decide (x.z = 0)) (fun x _ => h1 x)
  have h3 : DCall Tryz.prog 184 [.sl nn (l.map WI.tr), .fn 185 []] (.bool (!l.all (fun x => decide (x.z = 0)))) := by
    rw [← any_not, ← idxFrom_any _ l 0]
    refine dcall_mk orders Tryz.func184 rfl (by kernel_rfl) noMu (by kernel_rfl) rfl (fun hs => ?_)
    repeat' (first
      | (with_reducible first | refine sA ?_ ?_ | refine sB ?_ ?_ | refine sC ?_ ?_ | refine sD ?_ ?_ | refine sE ?_ ?_ | refine sF ?_ ?_) <;> intro h
      | refine clK_mk (h2) rfl ?_
      | simp only [go_sem, *])
  have sg := sign_d c.nn c.z
  unfold contraW
  have e : decide (c.z < 0) = decide (c.z.sign < 0) := by rw [Bool.eq_iff_iff]; simp [Int.sign_neg_iff]
  rw [e]
  clear e
  generalize c.z.sign = s at *
  generalize l.all (fun x => decide (x.z = 0)) = b at *
  cases b with
  | true =>
    refine dcall_mk orders Tryz.func101 rfl (by kernel_rfl) noMu (by kernel_rfl) rfl (fun hs => ?_)
    repeat' (first
      | (with_reducible first | refine sA ?_ ?_ | refine sB ?_ ?_ | refine sC ?_ ?_ | refine sD ?_ ?_ | refine sE ?_ ?_ | refine sF ?_ ?_) <;> intro h
      | refine clK_mk (sg) rfl ?_
      | refine clK_mk (h3) rfl ?_
      | simp only [go_sem, *])
  | false =>
    refine dcall_mk orders Tryz.func101 rfl (by kernel_rfl) noMu (by kernel_rfl) rfl (fun hs => ?_)
    repeat' (first
      | (with_reducible first | refine sA ?_ ?_ | refine sB ?_ ?_ | refine sC ?_ ?_ | refine sD ?_ ?_ | refine sE ?_ ?_ | refine sF ?_ ?_) <;> intro h
      | refine clK_mk (sg) rfl ?_
      | refine clK_mk (h3) rfl ?_
      | simp only [go_sem, *])
end YtajgclnahfmfmaaGreat
end Go.Vm
end
section
set_option linter.unusedSimpArgs false
set_option maxRecDepth 10000
namespace Go.Vm
open Go Go.Proofs Go.Whole
namespace YtajgclnahfmfmaaGreat
open Go.Proofs.Tryz
attribute [go_sem] Tryz.results168 Tryz.results103
theorem append_rf {P : Program} {mu : Nat → Bool} {h : Hp} {d : Option Tmp} {t e : TypeId} {id : Id} {n : Nat} {nn' : Bool} {cs : List PV} {ag : Bool} {xs : List Tr} {esz : Nat} (hel : elemB P t = some e) (hsz : P.cellsOf e = esz) (hz : (zeroB P e).map List.length = some esz) (h1 : Nat.blt 0 esz = true) (hby : Nat.ble (P.bytesOf e) 128 = true)
    (hx : ∀ x ∈ xs, x.cells.length = esz) (hg : hget h id = some ⟨cs, esz, n, e, ag, true⟩) (hb : n + xs.length ≤ 1099511627776) (hne : xs ≠ []) :
    appendPV P mu d t (.rf id n) (.t (.sl nn' xs)) h = some (.rf id (n + xs.length), hset h id ⟨cs ++ (flat xs).map .t, esz, n + xs.length, e, ag, true⟩) := by
  have hpos : 0 < esz := by simp [Nat.blt] at h1; omega
  have hzz : ∃ z, zeroB P e = some z ∧ z.length = esz := by
    cases hzz : zeroB P e with
    | none => rw [hzz] at hz; cases hz
    | some z => rw [hzz] at hz; exact ⟨z, rfl, by simpa using hz⟩
  obtain ⟨z, hz1, hz2⟩ := hzz
  have hfl := flat_length xs esz hx
  have hm := Nat.mul_le_mul hb (Nat.le_of_ble_eq_true hby)
  have hl0 : xs.length ≠ 0 := fun e => hne (List.eq_nil_of_length_eq_zero e)
  unfold appendPV
  simp only [hel, hz1, srcPV, hfl, hsz, if_true, hz2, true_and, hg]
  rw [if_pos hpos, if_pos ⟨by omega, by omega⟩, if_neg hl0]
theorem cloneRows_i (rnn : Bool) (l : List Row) (h : Hp) (hne : l ≠ []) (hlen : l.length ≤ 1000000) :
    ICall Tryz.prog 168 [.t (.sl true (l.map Row.tr))] h (fun v h' => v = .rf (hnext h 5) l.length ∧ h' = hnew h 5 ⟨(flat (l.map Row.tr)).map .t, 2, l.length, tRow, true, true⟩) := by
  refine icall_mk orders Tryz.func168 rfl (by kernel_rfl) (fun d => d == 5 || d == 7) (by kernel_rfl) rfl (fun hs hlen => ?_)
  clear hs
  repeat' (first
    | (with_reducible first | refine sA ?_ ?_ | refine sB ?_ ?_ | refine sC ?_ ?_ | refine sD ?_ ?_ | refine sE ?_ ?_ | refine sF ?_ ?_) <;> intro h
    | simp only [go_sem, *])
  rw [append_rf (esz := 2) (e := tRow) (ag := true) (by kernel_rfl) (by kernel_rfl) (by kernel_rfl) rfl (by kernel_rfl) (fun x hx => (ok_rows l x hx).2.2) (hget_new _ _) (by simp; omega) (by simpa using hne)]
  simp only [Nat.zero_add, List.length_map, List.nil_append, hset_new]
  repeat' (first
    | (with_reducible first | refine sA ?_ ?_ | refine sB ?_ ?_ | refine sC ?_ ?_ | refine sD ?_ ?_ | refine sE ?_ ?_ | refine sF ?_ ?_) <;> intro h
    | simp only [go_sem, *])
theorem cloneU64_i (mnn : Bool) (l : List Nat) (h : Hp) (hne : l ≠ []) (hlen : l.length ≤ 1000000) :
    ICall Tryz.prog 103 [.t (.sl true (l.map u64T))] h (fun v h' => v = .rf (hnext h 5) l.length ∧ h' = hnew h 5 ⟨(l.map u64T).map .t, 1, l.length, 38, false, true⟩) := by
  refine icall_mk orders Tryz.func103 rfl (by kernel_rfl) (fun d => d == 5 || d == 7) (by kernel_rfl) rfl (fun hs hlen => ?_)
  clear hs
  have hfl : flat (l.map u64T) = l.map u64T := flat_one _ (fun x hx => by obtain ⟨y, _, rfl⟩ := List.mem_map.1 hx; rfl)
  repeat' (first
    | (with_reducible first | refine sA ?_ ?_ | refine sB ?_ ?_ | refine sC ?_ ?_ | refine sD ?_ ?_ | refine sE ?_ ?_ | refine sF ?_ ?_) <;> intro h
    | simp only [go_sem, *])
  rw [append_rf (esz := 1) (e := 38) (ag := false) (by kernel_rfl) (by kernel_rfl) (by kernel_rfl) rfl (by kernel_rfl) (fun x hx => by obtain ⟨y, _, rfl⟩ := List.mem_map.1 hx; rfl) (hget_new _ _) (by simp; omega) (by simpa using hne)]
  simp only [Nat.zero_add, List.length_map, List.nil_append, hset_new, hfl]
  repeat' (first
    | (with_reducible first | refine sA ?_ ?_ | refine sB ?_ ?_ | refine sC ?_ ?_ | refine sD ?_ ?_ | refine sE ?_ ?_ | refine sF ?_ ?_) <;> intro h
    | simp only [go_sem, *])
theorem append_rf0 {P : Program} {mu : Nat → Bool} {h : Hp} {d : Option Tmp} {t e : TypeId} {id : Id} {n : Nat} {nn' : Bool} {cs : List PV} {ag : Bool} {esz : Nat} (hel : elemB P t = some e) (hsz : P.cellsOf e = esz) (hz : (zeroB P e).map List.length = some esz) (h1 : Nat.blt 0 esz = true) (hby : Nat.ble (P.bytesOf e) 128 = true)
    (hg : hget h id = some ⟨cs, esz, n, e, ag, true⟩) (hb : n ≤ 1099511627776) :
    appendPV P mu d t (.rf id n) (.t (.sl nn' [])) h = some (.rf id n, h) := by
  have hpos : 0 < esz := by simp [Nat.blt] at h1; omega
  have hzz : ∃ z, zeroB P e = some z ∧ z.length = esz := by
    cases hzz : zeroB P e with
    | none => rw [hzz] at hz; cases hz
    | some z => rw [hzz] at hz; exact ⟨z, rfl, by simpa using hz⟩
  obtain ⟨z, hz1, hz2⟩ := hzz
  have hm := Nat.mul_le_mul hb (Nat.le_of_ble_eq_true hby)
  unfold appendPV
  simp only [hel, hz1, srcPV, flat, List.flatMap_nil, List.length_nil, Nat.zero_mul, hsz, if_true, hz2, true_and, hg]
  rw [if_pos hpos, if_pos ⟨by omega, by omega⟩]
theorem cloneRows_i' (l : List Row) (h : Hp) (hlen : l.length ≤ 1000000) :
    ICall Tryz.prog 168 [.t (.sl true (l.map Row.tr))] h (fun v h' => v = .rf (hnext h 5) l.length ∧ h' = hnew h 5 ⟨(flat (l.map Row.tr)).map .t, 2, l.length, tRow, true, true⟩) := by
  by_cases hne : l = []
  · subst hne
    refine icall_mk orders Tryz.func168 rfl (by kernel_rfl) (fun d => d == 5 || d == 7) (by kernel_rfl) rfl (fun hs hlen => ?_)
    clear hs
    repeat' (first
      | (with_reducible first | refine sA ?_ ?_ | refine sB ?_ ?_ | refine sC ?_ ?_ | refine sD ?_ ?_ | refine sE ?_ ?_ | refine sF ?_ ?_) <;> intro h
      | simp only [go_sem, *])
    rw [append_rf0 (esz := 2) (e := tRow) (ag := true) (by kernel_rfl) (by kernel_rfl) (by kernel_rfl) rfl (by kernel_rfl) (hget_new _ _) (by decide)]
    repeat' (first
      | (with_reducible first | refine sA ?_ ?_ | refine sB ?_ ?_ | refine sC ?_ ?_ | refine sD ?_ ?_ | refine sE ?_ ?_ | refine sF ?_ ?_) <;> intro h
      | simp only [go_sem, *])
    rfl
  · exact cloneRows_i true l h hne hlen
theorem cloneRows_nil (h : Hp) : ICall Tryz.prog 168 [.t (.sl false [])] h (fun v h' => v = .t (.sl false []) ∧ h' = h) := by
  refine icall_mk orders Tryz.func168 rfl (by kernel_rfl) (fun d => d == 5 || d == 7) (by kernel_rfl) rfl (fun hs hlen => ?_)
  clear hs
  repeat' (first
    | (with_reducible first | refine sA ?_ ?_ | refine sB ?_ ?_ | refine sC ?_ ?_ | refine sD ?_ ?_ | refine sE ?_ ?_ | refine sF ?_ ?_) <;> intro h
    | simp only [go_sem, *])
theorem append_nilT {P : Program} {mu : Nat → Bool} {h : Hp} {d : Option Tmp} {t e : TypeId} {nn' : Bool} {xs : List Tr} {esz : Nat} (hel : elemB P t = some e) (hsz : P.cellsOf e = esz) (hz : (zeroB P e).map List.length = some esz) (h1 : Nat.blt 0 esz = true) (hby : Nat.ble (P.bytesOf e) 128 = true)
    (hx : ∀ x ∈ xs, x.cells.length = esz) (hb : xs.length ≤ 1099511627776) (hne : xs ≠ []) :
    appendPV P mu d t (.t (.sl false [])) (.t (.sl nn' xs)) h = newRowPV P mu d e xs.length ((flat xs).map .t) h := by
  have hpos : 0 < esz := by simp [Nat.blt] at h1; omega
  have hzz : ∃ z, zeroB P e = some z ∧ z.length = esz := by
    cases hzz : zeroB P e with
    | none => rw [hzz] at hz; cases hz
    | some z => rw [hzz] at hz; exact ⟨z, rfl, by simpa using hz⟩
  obtain ⟨z, hz1, hz2⟩ := hzz
  have hfl := flat_length xs esz hx
  have hm := Nat.mul_le_mul hb (Nat.le_of_ble_eq_true hby)
  have hl0 : xs.length ≠ 0 := fun e => hne (List.eq_nil_of_length_eq_zero e)
  unfold appendPV
  simp only [hel, hz1, srcPV, hfl, hsz, if_true, hz2, true_and]
  rw [if_pos hpos, if_neg hl0, if_pos ⟨by omega, by omega⟩]
theorem enters' (g : FuncId) (h : (match Tryz.prog.funcs[g]? with | some fn => !(fn.name == "runtime.NumGoroutine") && !fn.body.isNone | none => false) = true) : Enters Tryz.prog g := by
  cases hf : Tryz.prog.funcs[g]? with
  | none => rw [hf] at h; cases h
  | some fn => rw [hf] at h; simp only [Bool.and_eq_true, Bool.not_eq_true'] at h; exact ⟨fn, hf, h.1, h.2⟩
theorem implied_d (vars : Int) (rnn : Bool) (rows : List Row) (row : Row) (hlen : rows.length ≤ 900000) : DCall Tryz.prog 81 [i64 vars, .sl rnn (rows.map Row.tr), row.tr] (i64 (sysErr vars (rows ++ [row]))) := by
  refine dcall_wf (enters' _ (by kernel_rfl)) fun hw => ?_
  have hnil : rnn = false → rows = [] := fun h => by
    subst h
    simp [wfL, Tr.wf] at hw
    exact hw.1.1
  cases rnn with
  | false =>
    have := hnil rfl
    subst this
    have hc := lcheck_d vars true ([] ++ [row])
    simp only [List.nil_append, List.map_cons, List.map_nil] at hc
    clear hw hnil
    refine dcall_mk orders Tryz.func81 rfl (by kernel_rfl) (fun d => d == 9 || d == 13) (by kernel_rfl) rfl (fun hs => ?_)
    clear hs
    repeat' (first
      | (with_reducible first | refine sA ?_ ?_ | refine sB ?_ ?_ | refine sC ?_ ?_ | refine sD ?_ ?_ | refine sE ?_ ?_ | refine sF ?_ ?_) <;> intro h
      | simp only [go_sem, *])
    refine clK_ix (cloneRows_nil _) rfl ?_
    repeat' (first
      | (with_reducible first | refine sA ?_ ?_ | refine sB ?_ ?_ | refine sC ?_ ?_ | refine sD ?_ ?_ | refine sE ?_ ?_ | refine sF ?_ ?_) <;> intro h
      | simp only [go_sem, *])
    rw [append_nilT (esz := 2) (e := tRow) (by kernel_rfl) (by kernel_rfl) (by kernel_rfl) rfl (by kernel_rfl) (fun x hx => by rw [List.mem_singleton.1 hx]; rfl) (by simp) (by simp)]
    simp only [flat_cons, show flat [] = [] from rfl]
    repeat' (first
      | (with_reducible first | refine sA ?_ ?_ | refine sB ?_ ?_ | refine sC ?_ ?_ | refine sD ?_ ?_ | refine sE ?_ ?_ | refine sF ?_ ?_) <;> intro h
      | refine clK_mk (hc) rfl ?_
      | simp only [go_sem, *])
  | true =>
    have hc := lcheck_d vars true (rows ++ [row])
    have hi := cloneRows_i' rows (fun _ => []) (by omega)
    clear hw hnil
    refine dcall_mk orders Tryz.func81 rfl (by kernel_rfl) (fun d => d == 9 || d == 13) (by kernel_rfl) rfl (fun hs => ?_)
    clear hs
    repeat' (first
      | (with_reducible first | refine sA ?_ ?_ | refine sB ?_ ?_ | refine sC ?_ ?_ | refine sD ?_ ?_ | refine sE ?_ ?_ | refine sF ?_ ?_) <;> intro h
      | simp only [go_sem, *])
    refine clK_ix hi rfl ?_
    repeat' (first
      | (with_reducible first | refine sA ?_ ?_ | refine sB ?_ ?_ | refine sC ?_ ?_ | refine sD ?_ ?_ | refine sE ?_ ?_ | refine sF ?_ ?_) <;> intro h
      | simp only [go_sem, *])
    rw [append_rf (esz := 2) (e := tRow) (ag := true) (by kernel_rfl) (by kernel_rfl) (by kernel_rfl) rfl (by kernel_rfl) (fun x hx => by rw [List.mem_singleton.1 hx]; rfl) (hget_new _ _) (by simp; omega) (by simp)]
    have hcells : List.map PV.t (flat (List.map Row.tr rows)) ++ List.map PV.t (flat [Tr.agg [.sl row.nn (List.map (Tr.int .i64) row.coefs), .int .i64 row.const]]) = List.map PV.t (flat ((rows ++ [row]).map Row.tr)) := by
      rw [List.map_append, flat_append, List.map_append]; rfl
    rw [hcells, hset_new]
    have hdep : ∀ n, n = (rows ++ [row]).length → toTr (hnew (fun _ => []) 5 ⟨List.map PV.t (flat ((rows ++ [row]).map Row.tr)), 2, n, tRow, true, true⟩) dep (.rf (hnext (fun _ => []) 5) n) = some (.sl true ((rows ++ [row]).map Row.tr)) := fun n hn => toTr_flat 5 (ok_rows _) (by simp [hn]) (hget_new _ _)
    have hdep2 := hdep (rows.length + 1) (by simp)
    simp only [List.length_cons, List.length_nil]
    repeat' (first
      | (with_reducible first | refine sA ?_ ?_ | refine sB ?_ ?_ | refine sC ?_ ?_ | refine sD ?_ ?_ | refine sE ?_ ?_ | refine sF ?_ ?_) <;> intro h
      | simp only [go_sem, *])
    refine clK_fx hc (by simp only [go_sem, hdep2]) rfl ?_
    repeat' (first
      | (with_reducible first | refine sA ?_ ?_ | refine sB ?_ ?_ | refine sC ?_ ?_ | refine sD ?_ ?_ | refine sE ?_ ?_ | refine sF ?_ ?_) <;> intro h
      | simp only [go_sem, *])
end YtajgclnahfmfmaaGreat
end Go.Vm
end
section
set_option linter.unusedSimpArgs false
set_option maxRecDepth 10000
namespace Go.Vm
open Go Go.Proofs Go.Whole
namespace YtajgclnahfmfmaaGreat
open Go.Proofs.Tryz
def addW (out : List WI) (cs : List Int) (m : Nat) : List WI := List.zipWith (fun x c => (⟨true, x.z + m * c⟩ : WI)) out cs
def lsumR : List WI → WI → List Row → List Nat → List WI × WI
  | out, last, r :: rows, m :: ms => if m = 0 then lsumR out last rows ms else lsumR (addW out r.coefs m) ⟨true, last.z + m * r.const⟩ rows ms
  | out, last, _, _ => (out, last)
abbrev zW : WI := ⟨false, 0⟩
def WI.cs (x : WI) : List Tr := intC x.nn x.z
attribute [go_sem] WI.cs
theorem ok_WI (l : List WI) : ∀ x ∈ l.map WI.tr, elemOK true 2 x := by
  intro x hx
  obtain ⟨y, _, rfl⟩ := List.mem_map.1 hx
  exact ⟨fun _ => rfl, (fun h => nomatch h), rfl⟩
theorem WI_len (l : List WI) : ∀ x ∈ l.map WI.tr, x.cells.length = 2 := fun x hx => (ok_WI l x hx).2.2
def WI.le (x : WI) (k : Nat) : Prop := x.z.natAbs ≤ k * 19342813113834066795298816
theorem WI.le.fits {x : WI} {k : Nat} (h : x.le k) (hk : k ≤ 100000) : fits x.z := by
  have h2 : B ^ 2 = 18446744073709551616 := by decide
  have h3 : B ^ 4 = 340282366920938463463374607431768211456 := by rw [Nat.pow_succ, Nat.pow_succ, h2, B_eq]
  unfold WI.le at h
  refine Nat.le_trans (digs_length_le (k := 4) ?_) (by decide)
  rw [h3]; omega
theorem mul_le {c : Int} {m : Nat} (hc : c.natAbs ≤ 1048576) (hm : m < 18446744073709551616) : ((m : Int) * c).natAbs ≤ 19342813113834066795298816 := by
  rw [Int.natAbs_mul, Int.natAbs_natCast]
  have : m * c.natAbs ≤ 18446744073709551616 * 1048576 := Nat.mul_le_mul (Nat.le_of_lt hm) hc
  rwa [show 18446744073709551616 * 1048576 = 19342813113834066795298816 from rfl] at this
theorem addWI_le {x : WI} {k : Nat} (h : x.le k) {c : Int} {m : Nat} (hc : c.natAbs ≤ 1048576) (hm : m < 18446744073709551616) (b : Bool) : (⟨b, x.z + m * c⟩ : WI).le (k + 1) := by
  have := mul_le hc hm
  unfold WI.le at *
  rw [Nat.succ_mul]
  generalize 19342813113834066795298816 = big at *
  show (x.z + m * c).natAbs ≤ _
  omega
theorem mul_fits {c : Int} {m : Nat} (hc : c.natAbs ≤ 1048576) (hm : m < 18446744073709551616) : fits ((m : Int) * c) := by
  have h := mul_le hc hm
  exact WI.le.fits (x := ⟨true, (m : Int) * c⟩) (k := 1) (by unfold WI.le; omega) (by decide)
theorem zW_cs : zW.cs = [.sl false [], .bool false] := by
  simp only [WI.cs, intC, show Int.natAbs 0 = 0 from rfl, digs_zero, dl_nil]; rfl
theorem zW_row (V : Nat) : (flat ((List.replicate V zW).map WI.tr)).map PV.t = (zrow [.sl false [], .bool false] V).map PV.t := by
  rw [zrow_flat, List.map_replicate]
  unfold WI.tr encI
  rw [show intC zW.nn zW.z = zW.cs from rfl, zW_cs]
theorem zW_le (b : Bool) (k : Nat) : (⟨b, 0⟩ : WI).le k := Nat.zero_le _
theorem hnext_new_ne {h : Hp} {s d : Nat} (o : Obj) (hn : (d == s) = false) : hnext (hnew h s o) d = hnext h d := by
  simp only [hnext, hnew]
  rw [upd_ne _ _ _ _ (by simpa using hn)]
set_option maxHeartbeats 1000000 in
theorem lsum_d (V : Nat) (rnn : Bool) (rows : List Row) (mnn : Bool) (ms : List Nat) (hV : V ≤ 128) (hlen : rows.length ≤ 256) (hml : rows.length ≤ ms.length) (hms : ∀ m ∈ ms, m < 18446744073709551616) (hrow : ∀ r ∈ rows, r.coefs.length = V ∧ smallB r.const = true ∧ ∀ c ∈ r.coefs, smallB c = true) :
    DCall Tryz.prog 102 [i64 V, .sl rnn (rows.map Row.tr), .sl mnn (ms.map u64T)] (.tup [.sl true ((lsumR (List.replicate V zW) ⟨true, 0⟩ rows ms).1.map WI.tr), (lsumR (List.replicate V zW) ⟨true, 0⟩ rows ms).2.tr]) := by
  have o0 := of_d 0 ⟨by decide, by decide⟩
  refine dcall_mk orders Tryz.func102 rfl (by kernel_rfl) (fun d => d == 7 || d == 9 || d == 11 || d == 12 || d == 16 || d == 43 || d == 45 || d == 47 || d == 54 || d == 58) (by kernel_rfl) rfl (fun hs => ?_)
  clear hs
  generalize hR : lsumR (List.replicate V zW) ⟨true, 0⟩ rows ms = R
  repeat' (first
    | (with_reducible first | refine sA ?_ ?_ | refine sB ?_ ?_ | refine sC ?_ ?_ | refine sD ?_ ?_ | refine sE ?_ ?_ | refine sF ?_ ?_) <;> intro h
    | refine clK_mk (o0) rfl ?_
    | simp only [go_sem, *])
  refine hpK_if ⟨by omega, by omega⟩ ?_
  repeat' (first
    | (with_reducible first | refine sA ?_ ?_ | refine sB ?_ ?_ | refine sC ?_ ?_ | refine sD ?_ ?_ | refine sE ?_ ?_ | refine sF ?_ ?_) <;> intro h
    | refine clK_mk (o0) rfl ?_
    | simp only [go_sem, *])
  refine loop_range rows (fun k s' => ∃ (out : List WI) (last : WI), hget s'.hp (16, 0) = some ⟨(flat (out.map WI.tr)).map .t, 2, V, tWInt, true, true⟩ ∧ hget s'.hp (9, 0) = some ⟨last.cs.map .t, 2, 1, tWInt, true, true⟩ ∧ hget s'.hp (7, 0) = some ⟨zW.cs.map .t, 2, 1, tWInt, true, true⟩ ∧ out.length = V ∧ (∀ x ∈ out, x.le k) ∧ last.le k ∧ lsumR out last (rows.drop k) (ms.drop k) = R) rfl rfl (by first | assumption | omega) (by kernel_rfl) (fun _ _ _ _ hj => hj) (fun _ _ _ hj => hj) ?_ (fun k x s' hx hd hk hJ hix hfr G hG => ?_) (fun s' hJ hfr => ?_)
  · refine ⟨List.replicate V zW, ⟨true, 0⟩, ?_, ?_, ?_, by simp, fun x hx => by rw [(List.mem_replicate.1 hx).2]; exact zW_le _ 0, zW_le _ 0, hR⟩
    · rw [zW_row]; rfl
    · rfl
    · rw [zW_cs]; rfl
  · have c2 := hfr 2 (by kernel_rfl)
    have c8 := hfr 8 (by kernel_rfl)
    have c9 := hfr 9 (by kernel_rfl)
    have c18 := hfr 18 (by kernel_rfl)
    clear hfr
    simp only [go_sem] at c2 c8 c9 c18
    change _ = PV.rf (16, 0) V at c8
    change _ = PV.ad (9, 0) 1 0 at c9
    obtain ⟨out, last, h16, h9, h7, hol, hole, hlle, hJ⟩ := hJ
    have hkm : k < ms.length := by omega
    obtain ⟨m, hm1, hm2⟩ := get_of_lt ms k hkm
    have hm64 := hms m (List.mem_of_getElem? hm1)
    obtain ⟨hx1', hx2, hx3⟩ := hrow x (List.mem_of_getElem? hx)
    have hx1a : x.coefs.length ≤ V := by omega
    have hx1b : V ≤ x.coefs.length := by omega
    clear hx1'
    rw [hd, hm2, lsumR] at hJ
    have fr1 := from_d m hm64
    have e2 := c2
    have e8 := c8
    have e9 := c9
    by_cases hm0 : m = 0
    · subst hm0
      rw [if_pos rfl] at hJ
      have g0 : (((0 : Nat) : Int) == 0) = true := rfl
      have hole' : ∀ z ∈ out, z.le (k + 1) := fun z hz => Nat.le_trans (hole z hz) (Nat.mul_le_mul_right _ (Nat.le_succ k))
      have hlle' : last.le (k + 1) := Nat.le_trans hlle (Nat.mul_le_mul_right _ (Nat.le_succ k))
      clear hole hlle fr1
      repeat' (first
        | (with_reducible first | refine sA ?_ ?_ | refine sB ?_ ?_ | refine sC ?_ ?_ | refine sD ?_ ?_ | refine sE ?_ ?_ | refine sF ?_ ?_) <;> intro h
        | simp only [go_sem, *])
      refine hG _ ⟨out, last, ?_, ?_, ?_, hol, hole', hlle', hJ⟩
      · simp only [go_sem, h16]
      · simp only [go_sem, h9]
      · simp only [go_sem, h7]
    · rw [if_neg hm0] at hJ
      have g0 : ((m : Int) == 0) = false := by simpa using hm0
      clear hm0
      repeat' (first
        | (with_reducible first | refine sA ?_ ?_ | refine sB ?_ ?_ | refine sC ?_ ?_ | refine sD ?_ ?_ | refine sE ?_ ?_ | refine sF ?_ ?_) <;> intro h
        | refine clK_mk (fr1) rfl ?_
        | simp only [go_sem, *])
      obtain ⟨H, hH⟩ : ∃ H, H = s'.hp := ⟨_, rfl⟩
      rw [← hH] at h16 h9 h7 ⊢
      clear hH
      obtain ⟨i, hik⟩ : ∃ i, i = k := ⟨k, rfl⟩
      subst hik
      obtain ⟨r, hrx⟩ : ∃ r, r = x := ⟨x, rfl⟩
      subst hrx
      refine loop_range r.coefs (fun k s' => ∃ cur : List WI, hget s'.hp (16, 0) = some ⟨(flat (cur.map WI.tr)).map .t, 2, V, tWInt, true, true⟩ ∧ hget s'.hp (9, 0) = some ⟨last.cs.map .t, 2, 1, tWInt, true, true⟩ ∧ hget s'.hp (7, 0) = some ⟨zW.cs.map .t, 2, 1, tWInt, true, true⟩ ∧ hget s'.hp (hnext H 11) = some ⟨[.t (.sl r.nn (r.coefs.map (Tr.int .i64))), .t (.int .i64 r.const)], 2, 1, tRow, true, true⟩ ∧ hget s'.hp (hnext H 12) = some ⟨(intC true m).map .t, 2, 1, tWInt, true, true⟩ ∧ cur.length = V ∧ cur.drop k = out.drop k ∧ cur.take k = (addW out r.coefs m).take k) rfl rfl (by first | assumption | omega) (by kernel_rfl) (fun _ _ _ _ hj => hj) (fun _ _ _ hj => hj) ?_ (fun k x s' hx hd hk hJ hix hfr G hG => ?_) (fun s' hJ hfr => ?_)
      · refine ⟨out, ?_, ?_, ?_, ?_, ?_, hol, rfl, rfl⟩
        · simp only [go_sem, h16]
        · simp only [go_sem, h9]
        · simp only [go_sem, h7]
        · simp only [go_sem, ]
        · rw [← hnext_new_ne (h := H) (s := 11) (d := 12) _ rfl]; exact hget_new _ _
      · have c8 := hfr 8 (by kernel_rfl)
        have c12 := hfr 12 (by kernel_rfl)
        have c36 := hfr 36 (by kernel_rfl)
        clear hfr
        simp only [go_sem] at c8 c12 c36
        rw [hnext_new_ne _ rfl] at c12
        obtain ⟨cur, h16, h9, h7, h11, h12, hcl, hdr, htk⟩ := hJ
        rw [e8] at c8
        have hkV : k < V := by omega
        obtain ⟨y, hy, _⟩ := get_of_lt out k (by omega)
        have hcy : cur[k]? = some y := by
          have := congrArg (fun l => l[0]?) hdr
          simp only [List.getElem?_drop, Nat.add_zero] at this
          rw [this, hy]
        have hxs := smallB_abs (hx3 x (List.mem_of_getElem? hx))
        have hyf := (hole y (List.mem_of_getElem? hy)).fits (by omega)
        have ox := of_d x ⟨by omega, by omega⟩
        have mx := mul_d true true (m : Int) x (mul_fits (c := 1) (by decide) hm64 |> fun h => by simpa using h) (fits_i64 ⟨by omega, by omega⟩)
        have ax := add_d y.nn true y.z ((m : Int) * x) hyf (mul_fits hxs hm64)
        have hload : List.take 2 (List.drop (k * 2) (List.map PV.t (flat (List.map WI.tr cur)))) = y.cs.map PV.t := flat_cells_get (WI_len cur) (by rw [List.getElem?_map, hcy]; rfl)
        have hspl : splice (List.map PV.t (flat (List.map WI.tr cur))) (k * 2) ((⟨true, y.z + m * x⟩ : WI).cs.map PV.t) = List.map PV.t (flat (List.map WI.tr (cur.set k ⟨true, y.z + m * x⟩))) := by
          rw [List.map_set]
          exact flat_splice (WI_len cur) (x := y.tr) (y := (⟨true, y.z + m * x⟩ : WI).tr) (by rw [List.getElem?_map, hcy]; rfl) rfl
        simp only [go_sem] at hload hspl
        have hfl : (flat (List.map WI.tr cur)).length = V * 2 := by rw [flat_length _ 2 (WI_len cur), List.length_map, hcl]
        have hkV1 : k + 1 ≤ V := hkV
        have hkV2 : k * 2 + 2 ≤ V * 2 := by omega
        have hadd : (addW out r.coefs m)[k]? = some ⟨true, y.z + m * x⟩ := by
          unfold addW
          rw [List.getElem?_zipWith, hy, hx]
        have hst : (cur.set k ⟨true, y.z + m * x⟩).take (k + 1) = (addW out r.coefs m).take (k + 1) := by
          rw [take_set_succ _ _ _ (by omega), htk, List.take_add_one, hadd]; rfl
        have hdr2 : (cur.set k ⟨true, y.z + m * x⟩).drop (k + 1) = out.drop (k + 1) := by
          rw [List.drop_set_of_lt (by omega)]
          have := congrArg (List.drop 1) hdr
          simpa only [List.drop_drop] using this
        clear hdr htk hadd hcy hy hyf hxs
        repeat' (first
          | (with_reducible first | refine sA ?_ ?_ | refine sB ?_ ?_ | refine sC ?_ ?_ | refine sD ?_ ?_ | refine sE ?_ ?_ | refine sF ?_ ?_) <;> intro h
          | refine clK_mk (ox) rfl ?_
          | refine clK_mk (mx) rfl ?_
          | refine clK_mk (ax) rfl ?_
          | simp only [go_sem, *])
        refine hG _ ⟨cur.set k ⟨true, y.z + m * x⟩, ?_, ?_, ?_, ?_, ?_, by simp [hcl], hdr2, hst⟩
        · simp only [go_sem, h16]
        · simp only [go_sem, h9]
        · simp only [go_sem, h7]
        · simp only [go_sem, h11]
        · simp only [go_sem, h12]
      · obtain ⟨cur, h16, h9, h7, h11, h12, hcl, hdr, htk⟩ := hJ
        have c9 := hfr 9 (by kernel_rfl)
        have c11 := hfr 11 (by kernel_rfl)
        have c12 := hfr 12 (by kernel_rfl)
        clear hfr
        simp only [go_sem] at c9 c11 c12
        rw [e9] at c9
        rw [hnext_new_ne _ rfl] at c12
        have hal : (addW out r.coefs m).length = V := by unfold addW; rw [List.length_zipWith]; omega
        rw [List.take_of_length_le (by omega), List.take_of_length_le (by omega)] at htk
        have hcs := smallB_abs hx2
        have hlf := hlle.fits (by omega)
        have ox := of_d r.const ⟨by omega, by omega⟩
        have mx := mul_d true true (m : Int) r.const (mul_fits (c := 1) (by decide) hm64 |> fun h => by simpa using h) (fits_i64 ⟨by omega, by omega⟩)
        have ax := add_d last.nn true last.z ((m : Int) * r.const) hlf (mul_fits hcs hm64)
        clear hdr hlf
        repeat' (first
          | (with_reducible first | refine sA ?_ ?_ | refine sB ?_ ?_ | refine sC ?_ ?_ | refine sD ?_ ?_ | refine sE ?_ ?_ | refine sF ?_ ?_) <;> intro h
          | refine clK_mk (ox) rfl ?_
          | refine clK_mk (mx) rfl ?_
          | refine clK_mk (ax) rfl ?_
          | simp only [go_sem, *])
        refine hG _ ⟨addW out r.coefs m, ⟨true, last.z + m * r.const⟩, ?_, ?_, ?_, hal, ?_, addWI_le hlle hcs hm64 true, hJ⟩
        · rw [← htk]; simp only [go_sem, h16]
        · simp only [go_sem, h9]
        · simp only [go_sem, h7]
        · intro z hz
          unfold addW at hz
          rw [List.mem_iff_getElem?] at hz
          obtain ⟨j, hj⟩ := hz
          rw [List.getElem?_zipWith] at hj
          cases ho : out[j]? with
          | none => simp [ho] at hj
          | some a =>
            cases hc : r.coefs[j]? with
            | none => simp [ho, hc] at hj
            | some c =>
              simp [ho, hc] at hj
              rw [← hj]
              exact addWI_le (hole a (List.mem_of_getElem? ho)) (smallB_abs (hx3 c (List.mem_of_getElem? hc))) hm64 true
  · obtain ⟨out, last, h16, h9, h7, hol, hole, hlle, hJ⟩ := hJ
    have c7 := hfr 7 (by kernel_rfl)
    have c8 := hfr 8 (by kernel_rfl)
    have c9 := hfr 9 (by kernel_rfl)
    clear hfr
    simp only [go_sem] at c7 c8 c9
    change _ = PV.rf (16, 0) V at c8
    change _ = PV.ad (9, 0) 1 0 at c9
    change _ = PV.ad (7, 0) 1 0 at c7
    rw [List.drop_length] at hJ
    have hJ' : R = (out, last) := by rw [← hJ]; cases hmd : ms.drop rows.length <;> rfl
    subst hJ'
    have hdep : ∀ o, toTr (hset s'.hp (7, 0) o) dep (.rf (16, 0) V) = some (.sl true (out.map WI.tr)) := fun o => toTr_flat 5 (ok_WI out) (by simp [hol]) (by rw [hget_set_ne _ rfl]; exact h16)
    clear hR hJ
    repeat' (first
      | (with_reducible first | refine sA ?_ ?_ | refine sB ?_ ?_ | refine sC ?_ ?_ | refine sD ?_ ?_ | refine sE ?_ ?_ | refine sF ?_ ?_) <;> intro h
      | simp only [go_sem, *])
    all_goals rw [hdep]
end YtajgclnahfmfmaaGreat
end Go.Vm
end
section
set_option linter.unusedSimpArgs false
set_option maxRecDepth 10000
namespace Go.Vm
open Go Go.Proofs Go.Whole
namespace YtajgclnahfmfmaaGreat
open Go.Proofs.Tryz
theorem sys_of {vars : Int} {rows : List Row} (h : sysErr vars rows = 0) : ∃ V : Nat, vars = V ∧ Sys V rows := by
  unfold sysErr at h
  split at h
  · cases h
  · rename_i h1
    split at h
    · cases h
    · rename_i h2
      split at h
      · rename_i h3
        simp at h1 h2
        refine ⟨vars.toNat, by omega, by omega, by omega, fun r hr => ?_⟩
        have := List.all_eq_true.1 h3 r hr
        simp [rightB, List.all_eq_true] at this
        obtain ⟨e, h4, h5⟩ := this
        exact ⟨by omega, h4, fun c hc => h5 c hc⟩
      · cases h
def okMults (rows : List Row) (ms : List Nat) : Bool := decide (ms.length = rows.length) && ms.all (fun m => decide (m ≤ 4611686018427387904))
theorem okMults_of {rows : List Row} {ms : List Nat} (h : okMults rows ms = true) : ms.length = rows.length ∧ ∀ m ∈ ms, m < 18446744073709551616 := by
  simp [okMults, List.all_eq_true] at h
  exact ⟨h.1, fun m hm => by have := h.2 m hm; omega⟩
def lrefR (vars : Int) (rows : List Row) (ms : List Nat) : Bool × Int :=
  if sysErr vars rows ≠ 0 then (false, sysErr vars rows) else if okMults rows ms = true then (contraW (lsumR (List.replicate vars.toNat zW) ⟨true, 0⟩ rows ms).1 (lsumR (List.replicate vars.toNat zW) ⟨true, 0⟩ rows ms).2, 0) else (false, 2)
theorem lrefutes_d (vars : Int) (rnn : Bool) (rows : List Row) (mnn : Bool) (ms : List Nat) : DCall Tryz.prog 36 [i64 vars, .sl rnn (rows.map Row.tr), .sl mnn (ms.map u64T)] (.tup [.bool (lrefR vars rows ms).1, i64 (lrefR vars rows ms).2]) := by
  have hck := lcheck_d vars rnn rows
  have hmu := multipliers_d rnn rows mnn ms
  unfold lrefR
  by_cases he : sysErr vars rows = 0
  · obtain ⟨V, rfl, hsy⟩ := sys_of he
    rw [he] at hck
    rw [if_neg (by simp [he]), Int.toNat_natCast]
    clear he
    by_cases hl : ms.length = rows.length
    · have g1 : ((ms.length : Int) != (rows.length : Int)) = false := by simp; omega
      by_cases ha : ms.all (fun m => decide (m ≤ 4611686018427387904)) = true
      · have hok : okMults rows ms = true := by simp only [okMults, decide_eq_true hl, ha, Bool.and_self]
        rw [if_pos ha] at hmu
        rw [if_pos hok]
        have hsm := lsum_d V rnn rows mnn ms hsy.v hsy.n (by omega) (okMults_of hok).2 hsy.r
        have hco := contradicts_d true (lsumR (List.replicate V zW) ⟨true, 0⟩ rows ms).1 (lsumR (List.replicate V zW) ⟨true, 0⟩ rows ms).2
        clear hok ha hl hsy
        generalize lsumR (List.replicate V zW) ⟨true, 0⟩ rows ms = R at *
        refine dcall_mk orders Tryz.func36 rfl (by kernel_rfl) noMu (by kernel_rfl) rfl (fun hs => ?_)
        repeat' (first
          | (with_reducible first | refine sA ?_ ?_ | refine sB ?_ ?_ | refine sC ?_ ?_ | refine sD ?_ ?_ | refine sE ?_ ?_ | refine sF ?_ ?_) <;> intro h
          | refine clK_mk (hck) rfl ?_
          | refine clK_mk (hmu) rfl ?_
          | refine clK_mk (hsm) rfl ?_
          | refine clK_mk (hco) rfl ?_
          | simp only [go_sem, *])
      · have hok : okMults rows ms = false := by simp only [okMults, show ms.all (fun m => decide (m ≤ 4611686018427387904)) = false by simpa using ha, Bool.and_false]
        rw [if_neg ha] at hmu
        rw [if_neg (by simp [hok])]
        clear hok ha hl hsy
        refine dcall_mk orders Tryz.func36 rfl (by kernel_rfl) noMu (by kernel_rfl) rfl (fun hs => ?_)
        repeat' (first
          | (with_reducible first | refine sA ?_ ?_ | refine sB ?_ ?_ | refine sC ?_ ?_ | refine sD ?_ ?_ | refine sE ?_ ?_ | refine sF ?_ ?_) <;> intro h
          | refine clK_mk (hck) rfl ?_
          | refine clK_mk (hmu) rfl ?_
          | simp only [go_sem, *])
    · have g1 : ((ms.length : Int) != (rows.length : Int)) = true := by simpa using fun h => hl (by omega)
      have hok : okMults rows ms = false := by simp only [okMults, decide_eq_false hl, Bool.false_and]
      rw [if_neg (by simp [hok])]
      clear hok hl hsy
      refine dcall_mk orders Tryz.func36 rfl (by kernel_rfl) noMu (by kernel_rfl) rfl (fun hs => ?_)
      repeat' (first
        | (with_reducible first | refine sA ?_ ?_ | refine sB ?_ ?_ | refine sC ?_ ?_ | refine sD ?_ ?_ | refine sE ?_ ?_ | refine sF ?_ ?_) <;> intro h
        | refine clK_mk (hck) rfl ?_
        | simp only [go_sem, *])
  · rw [if_pos he]
    have g : (sysErr vars rows != 0) = true := by simpa using he
    generalize sysErr vars rows = e at *
    clear he
    refine dcall_mk orders Tryz.func36 rfl (by kernel_rfl) noMu (by kernel_rfl) rfl (fun hs => ?_)
    repeat' (first
      | (with_reducible first | refine sA ?_ ?_ | refine sB ?_ ?_ | refine sC ?_ ?_ | refine sD ?_ ?_ | refine sE ?_ ?_ | refine sF ?_ ?_) <;> intro h
      | refine clK_mk (hck) rfl ?_
      | simp only [go_sem, *])
theorem cloneU64_i' (l : List Nat) (h : Hp) (hlen : l.length ≤ 1000000) :
    ICall Tryz.prog 103 [.t (.sl true (l.map u64T))] h (fun v h' => v = .rf (hnext h 5) l.length ∧ h' = hnew h 5 ⟨(l.map u64T).map .t, 1, l.length, 38, false, true⟩) := by
  by_cases hne : l = []
  · subst hne
    refine icall_mk orders Tryz.func103 rfl (by kernel_rfl) (fun d => d == 5 || d == 7) (by kernel_rfl) rfl (fun hs hlen => ?_)
    clear hs
    repeat' (first
      | (with_reducible first | refine sA ?_ ?_ | refine sB ?_ ?_ | refine sC ?_ ?_ | refine sD ?_ ?_ | refine sE ?_ ?_ | refine sF ?_ ?_) <;> intro h
      | simp only [go_sem, *])
    rw [append_rf0 (esz := 1) (e := 38) (ag := false) (by kernel_rfl) (by kernel_rfl) (by kernel_rfl) rfl (by kernel_rfl) (hget_new _ _) (by decide)]
    repeat' (first
      | (with_reducible first | refine sA ?_ ?_ | refine sB ?_ ?_ | refine sC ?_ ?_ | refine sD ?_ ?_ | refine sE ?_ ?_ | refine sF ?_ ?_) <;> intro h
      | simp only [go_sem, *])
    all_goals rfl
  · exact cloneU64_i true l h hne hlen
theorem cloneU64_nil (h : Hp) : ICall Tryz.prog 103 [.t (.sl false [])] h (fun v h' => v = .t (.sl false []) ∧ h' = h) := by
  refine icall_mk orders Tryz.func103 rfl (by kernel_rfl) (fun d => d == 5 || d == 7) (by kernel_rfl) rfl (fun hs hlen => ?_)
  clear hs
  repeat' (first
    | (with_reducible first | refine sA ?_ ?_ | refine sB ?_ ?_ | refine sC ?_ ?_ | refine sD ?_ ?_ | refine sE ?_ ?_ | refine sF ?_ ?_) <;> intro h
    | simp only [go_sem, *])
def eqW : List WI → List Int → Nat → Bool
  | x :: out, a :: l, b => decide (x.z = b * a) && eqW out l b
  | _, _, _ => true
def lprovW (q : List WI × WI) (row : Row) (sc : Nat) : Bool := if sc = 0 then contraW q.1 q.2 else eqW q.1 row.coefs sc && decide (q.2.z ≤ sc * row.const)
def okCert (rows : List Row) (f : Cert) : Bool := okMults rows f.ms && decide (f.scale ≤ 4611686018427387904)
def lprovR (vars : Int) (rows : List Row) (row : Row) (f : Cert) : Bool × Int :=
  if sysErr vars (rows ++ [row]) ≠ 0 then (false, sysErr vars (rows ++ [row])) else if okCert rows f = true then (lprovW (lsumR (List.replicate vars.toNat zW) ⟨true, 0⟩ rows f.ms) row f.scale, 0) else (false, 2)
theorem Sys.left {V : Nat} {rows : List Row} {row : Row} (h : Sys V (rows ++ [row])) : Sys V rows ∧ row.coefs.length = V ∧ smallB row.const = true ∧ ∀ c ∈ row.coefs, smallB c = true :=
  ⟨⟨h.v, by have := h.n; simp at this; omega, fun r hr => h.r r (by simp [hr])⟩, h.r row (by simp)⟩
end YtajgclnahfmfmaaGreat
end Go.Vm
end
section
set_option linter.unusedSimpArgs false
set_option maxRecDepth 10000
namespace Go.Vm
open Go Go.Proofs Go.Whole
namespace YtajgclnahfmfmaaGreat
open Go.Proofs.Tryz
theorem u64_cells (ms : List Nat) (sc : Nat) : List.map PV.t (List.map u64T ms) ++ List.map PV.t (flat [Tr.int .u64 (sc : Int)]) = List.map PV.t (List.map u64T (ms ++ [sc])) := by
  rw [List.map_append, List.map_append]; rfl
theorem u64_dep (ms : List Nat) (sc : Nat) : toTr (hnew (fun _ => []) 5 ⟨List.map PV.t (List.map u64T (ms ++ [sc])), 1, ms.length + 1, 38, false, true⟩) dep (.rf (hnext (fun _ => []) 5) (ms.length + 1)) = some (.sl true ((ms ++ [sc]).map u64T)) := toTr_ints 5 (hget_new _ _)
theorem lsumR_len {V : Nat} : ∀ (rows : List Row) (ms : List Nat) (out : List WI) (last : WI), out.length = V → (∀ r ∈ rows, r.coefs.length = V) → (lsumR out last rows ms).1.length = V
  | [], ms, out, last, h, _ => by cases ms <;> exact h
  | r :: rows, [], out, last, h, _ => h
  | r :: rows, m :: ms, out, last, h, hr => by
    simp only [lsumR]
    split
    · exact lsumR_len rows ms _ _ h (fun x hx => hr x (by simp [hx]))
    · exact lsumR_len rows ms _ _ (by unfold addW; rw [List.length_zipWith, h, hr r (by simp), Nat.min_self]) (fun x hx => hr x (by simp [hx]))
theorem WI.le.mono {x : WI} {k j : Nat} (h : x.le k) (hj : k ≤ j) : x.le j := Nat.le_trans h (Nat.mul_le_mul_right _ hj)
theorem lsumR_le : ∀ (rows : List Row) (ms : List Nat) (out : List WI) (last : WI) (k : Nat), (∀ m ∈ ms, m < 18446744073709551616) → (∀ r ∈ rows, smallB r.const = true ∧ ∀ c ∈ r.coefs, smallB c = true) → (∀ x ∈ out, x.le k) → last.le k →
    (∀ x ∈ (lsumR out last rows ms).1, x.le (k + rows.length)) ∧ (lsumR out last rows ms).2.le (k + rows.length)
  | [], ms, out, last, k, _, _, h1, h2 => by cases ms <;> exact ⟨h1, h2⟩
  | r :: rows, [], out, last, k, _, _, h1, h2 => ⟨fun x hx => (h1 x hx).mono (by omega), h2.mono (by omega)⟩
  | r :: rows, m :: ms, out, last, k, hm, hr, h1, h2 => by
    have hr0 := hr r (by simp)
    have hm0 := hm m (by simp)
    simp only [lsumR, List.length_cons]
    rw [show k + (rows.length + 1) = k + 1 + rows.length by omega]
    split
    · exact lsumR_le rows ms out last (k + 1) (fun x hx => hm x (by simp [hx])) (fun x hx => hr x (by simp [hx])) (fun x hx => (h1 x hx).mono (by omega)) (h2.mono (by omega))
    · refine lsumR_le rows ms _ _ (k + 1) (fun x hx => hm x (by simp [hx])) (fun x hx => hr x (by simp [hx])) (fun z hz => ?_) (addWI_le h2 (smallB_abs hr0.1) hm0 true)
      unfold addW at hz
      rw [List.mem_iff_getElem?] at hz
      obtain ⟨j, hj⟩ := hz
      rw [List.getElem?_zipWith] at hj
      cases ho : out[j]? with
      | none => simp [ho] at hj
      | some a =>
        cases hc : r.coefs[j]? with
        | none => simp [ho, hc] at hj
        | some c =>
          simp [ho, hc] at hj
          rw [← hj]
          exact addWI_le (h1 a (List.mem_of_getElem? ho)) (smallB_abs (hr0.2 c (List.mem_of_getElem? hc))) hm0 true
theorem lproves_len (vars : Int) (rnn : Bool) (rows : List Row) (row : Row) (f : Cert) (hlen : rows.length ≤ 900000) (he : sysErr vars (rows ++ [row]) = 0) (hl : f.ms.length ≠ rows.length) : DCall Tryz.prog 37 [i64 vars, .sl rnn (rows.map Row.tr), row.tr, f.tr] (.tup [.bool false, i64 2]) := by
  have hck := implied_d vars rnn rows row hlen
  rw [he] at hck
  have g1 : ((f.ms.length : Int) != (rows.length : Int)) = true := by simpa using fun h => hl (by omega)
  clear he hl
  refine dcall_mk orders Tryz.func37 rfl (by kernel_rfl) (fun d => d == 12 || d == 13 || d == 33 || d == 38) (by kernel_rfl) rfl (fun hs => ?_)
  clear hs
  repeat' (first
    | (with_reducible first | refine sA ?_ ?_ | refine sB ?_ ?_ | refine sC ?_ ?_ | refine sD ?_ ?_ | refine sE ?_ ?_ | refine sF ?_ ?_) <;> intro h
    | refine clK_mk (hck) rfl ?_
    | simp only [go_sem, *])
theorem lproves_big (vars : Int) (rnn : Bool) (rows : List Row) (row : Row) (sc : Nat) (mnn : Bool) (ms : List Nat) (hlen : rows.length ≤ 900000) (he : sysErr vars (rows ++ [row]) = 0) (hl : ms.length = rows.length) (ha : (ms ++ [sc]).all (fun m => decide (m ≤ 4611686018427387904)) = false) (hnil : mnn = false → ms = []) : DCall Tryz.prog 37 [i64 vars, .sl rnn (rows.map Row.tr), row.tr, (⟨sc, mnn, ms⟩ : Cert).tr] (.tup [.bool false, i64 2]) := by
  have hck := implied_d vars rnn rows row hlen
  rw [he] at hck
  have hmu := multipliers_d rnn rows true (ms ++ [sc])
  rw [if_neg (by simp [ha])] at hmu
  have g1 : ((ms.length : Int) != (rows.length : Int)) = false := by simp; omega
  have hml : ms.length ≤ 900000 := by omega
  clear he hl ha hlen
  cases mnn with
  | false =>
    have := hnil rfl
    subst this
    clear hnil
    simp only [List.nil_append, List.map_cons, List.map_nil] at hmu
    refine dcall_mk orders Tryz.func37 rfl (by kernel_rfl) (fun d => d == 12 || d == 13 || d == 33 || d == 38) (by kernel_rfl) rfl (fun hs => ?_)
    clear hs
    repeat' (first
      | (with_reducible first | refine sA ?_ ?_ | refine sB ?_ ?_ | refine sC ?_ ?_ | refine sD ?_ ?_ | refine sE ?_ ?_ | refine sF ?_ ?_) <;> intro h
      | refine clK_mk (hck) rfl ?_
      | simp only [go_sem, *])
    refine clK_ix (cloneU64_nil _) rfl ?_
    repeat' (first
      | (with_reducible first | refine sA ?_ ?_ | refine sB ?_ ?_ | refine sC ?_ ?_ | refine sD ?_ ?_ | refine sE ?_ ?_ | refine sF ?_ ?_) <;> intro h
      | simp only [go_sem, *])
    rw [append_nilT (esz := 1) (e := 38) (by kernel_rfl) (by kernel_rfl) (by kernel_rfl) rfl (by kernel_rfl) (fun x hx => by rw [List.mem_singleton.1 hx]; rfl) (by simp) (by simp)]
    simp only [flat_cons, show flat [] = [] from rfl]
    repeat' (first
      | (with_reducible first | refine sA ?_ ?_ | refine sB ?_ ?_ | refine sC ?_ ?_ | refine sD ?_ ?_ | refine sE ?_ ?_ | refine sF ?_ ?_) <;> intro h
      | refine clK_mk (hmu) rfl ?_
      | simp only [go_sem, *])
  | true =>
    clear hnil
    have hi := cloneU64_i' ms (fun _ => []) (by omega)
    refine dcall_mk orders Tryz.func37 rfl (by kernel_rfl) (fun d => d == 12 || d == 13 || d == 33 || d == 38) (by kernel_rfl) rfl (fun hs => ?_)
    clear hs
    repeat' (first
      | (with_reducible first | refine sA ?_ ?_ | refine sB ?_ ?_ | refine sC ?_ ?_ | refine sD ?_ ?_ | refine sE ?_ ?_ | refine sF ?_ ?_) <;> intro h
      | refine clK_mk (hck) rfl ?_
      | simp only [go_sem, *])
    refine clK_ix hi rfl ?_
    repeat' (first
      | (with_reducible first | refine sA ?_ ?_ | refine sB ?_ ?_ | refine sC ?_ ?_ | refine sD ?_ ?_ | refine sE ?_ ?_ | refine sF ?_ ?_) <;> intro h
      | simp only [go_sem, *])
    rw [append_rf (esz := 1) (e := 38) (ag := false) (by kernel_rfl) (by kernel_rfl) (by kernel_rfl) rfl (by kernel_rfl) (fun x hx => by rw [List.mem_singleton.1 hx]; rfl) (hget_new _ _) (by simp; omega) (by simp)]
    rw [u64_cells, hset_new]
    have hdep2 := u64_dep ms sc
    simp only [List.length_cons, List.length_nil]
    repeat' (first
      | (with_reducible first | refine sA ?_ ?_ | refine sB ?_ ?_ | refine sC ?_ ?_ | refine sD ?_ ?_ | refine sE ?_ ?_ | refine sF ?_ ?_) <;> intro h
      | simp only [go_sem, *])
    refine clK_fx hmu (by simp only [go_sem, hdep2]) rfl ?_
    repeat' (first
      | (with_reducible first | refine sA ?_ ?_ | refine sB ?_ ?_ | refine sC ?_ ?_ | refine sD ?_ ?_ | refine sE ?_ ?_ | refine sF ?_ ?_) <;> intro h
      | simp only [go_sem, *])
set_option maxHeartbeats 2000000 in
theorem lproves_ok (V : Nat) (rnn : Bool) (rows : List Row) (row : Row) (sc : Nat) (mnn : Bool) (ms : List Nat) (he : sysErr V (rows ++ [row]) = 0) (hsy : Sys V (rows ++ [row])) (hl : ms.length = rows.length) (ha : (ms ++ [sc]).all (fun m => decide (m ≤ 4611686018427387904)) = true) (hnil : mnn = false → ms = []) :
    DCall Tryz.prog 37 [i64 V, .sl rnn (rows.map Row.tr), row.tr, (⟨sc, mnn, ms⟩ : Cert).tr] (.tup [.bool (lprovW (lsumR (List.replicate V zW) ⟨true, 0⟩ rows ms) row sc), i64 0]) := by
  obtain ⟨hsl, hr1, hr2, hr3⟩ := hsy.left
  have hck := implied_d V rnn rows row (by have := hsl.n; omega)
  rw [he] at hck
  have hmu := multipliers_d rnn rows true (ms ++ [sc])
  rw [if_pos ha] at hmu
  have hb : (∀ m ∈ ms, m < 18446744073709551616) ∧ sc < 18446744073709551616 := by
    simp [List.all_eq_true] at ha
    exact ⟨fun m hm => by have := ha.1 m hm; omega, by omega⟩
  have g1 : ((ms.length : Int) != (rows.length : Int)) = false := by simp; omega
  have hml : ms.length ≤ 256 := by have := hsl.n; omega
  have hsm := lsum_d V rnn rows mnn ms hsl.v hsl.n (by omega) hb.1 hsl.r
  have hlen := lsumR_len rows ms (List.replicate V zW) ⟨true, 0⟩ (by simp) (fun r hr => (hsl.r r hr).1)
  obtain ⟨hle1, hle2⟩ := lsumR_le rows ms (List.replicate V zW) ⟨true, 0⟩ 0 hb.1 (fun r hr => (hsl.r r hr).2) (fun x hx => by rw [(List.mem_replicate.1 hx).2]; exact zW_le _ 0) (zW_le _ 0)
  rw [Nat.zero_add] at hle1 hle2
  have hn := hsl.n
  have hco := contradicts_d true (lsumR (List.replicate V zW) ⟨true, 0⟩ rows ms).1 (lsumR (List.replicate V zW) ⟨true, 0⟩ rows ms).2
  have hvv := hsl.v
  clear he hsy hl ha hsl
  generalize lsumR (List.replicate V zW) ⟨true, 0⟩ rows ms = R at *
  obtain ⟨out, last⟩ := R
  simp only at hsm hle1 hle2 hlen hco
  have hol1 : row.coefs.length ≤ out.length := by omega
  have hol2 : out.length ≤ row.coefs.length := by omega
  have hol3 : row.coefs.length ≤ 256 := by omega
  clear hlen hr1
  have hfs : fits (sc : Int) := Nat.le_trans (digs64 (m := sc) hb.2) (by decide)
  by_cases h0 : sc = 0
  · subst h0
    rw [show lprovW (out, last) row 0 = contraW out last from if_pos rfl]
    have g2 : (((0 : Nat) : Int) == 0) = true := rfl
    clear hle1 hle2 hfs
    cases mnn with
    | false =>
      have hne := hnil rfl
      subst hne
      clear hnil
      simp only [List.nil_append, List.map_cons, List.map_nil] at hmu
      simp only [List.length_nil] at g1
      refine dcall_mk orders Tryz.func37 rfl (by kernel_rfl) (fun d => d == 12 || d == 13 || d == 33 || d == 38) (by kernel_rfl) rfl (fun hs => ?_)
      clear hs
      repeat' (first
        | (with_reducible first | refine sA ?_ ?_ | refine sB ?_ ?_ | refine sC ?_ ?_ | refine sD ?_ ?_ | refine sE ?_ ?_ | refine sF ?_ ?_) <;> intro h
        | refine clK_mk (hck) rfl ?_
        | simp only [go_sem, *])
      refine clK_ix (cloneU64_nil _) rfl ?_
      repeat' (first
        | (with_reducible first | refine sA ?_ ?_ | refine sB ?_ ?_ | refine sC ?_ ?_ | refine sD ?_ ?_ | refine sE ?_ ?_ | refine sF ?_ ?_) <;> intro h
        | simp only [go_sem, *])
      rw [append_nilT (esz := 1) (e := 38) (by kernel_rfl) (by kernel_rfl) (by kernel_rfl) rfl (by kernel_rfl) (fun x hx => by rw [List.mem_singleton.1 hx]; rfl) (by simp) (by simp)]
      simp only [flat_cons, show flat [] = [] from rfl]
      repeat' (first
        | (with_reducible first | refine sA ?_ ?_ | refine sB ?_ ?_ | refine sC ?_ ?_ | refine sD ?_ ?_ | refine sE ?_ ?_ | refine sF ?_ ?_) <;> intro h
        | refine clK_mk (hmu) rfl ?_
        | refine clK_mk (hsm) rfl ?_
        | refine clK_mk (hco) rfl ?_
        | simp only [go_sem, *])
    | true =>
      clear hnil
      have hi := cloneU64_i' ms (fun _ => []) (by omega)
      refine dcall_mk orders Tryz.func37 rfl (by kernel_rfl) (fun d => d == 12 || d == 13 || d == 33 || d == 38) (by kernel_rfl) rfl (fun hs => ?_)
      clear hs
      repeat' (first
        | (with_reducible first | refine sA ?_ ?_ | refine sB ?_ ?_ | refine sC ?_ ?_ | refine sD ?_ ?_ | refine sE ?_ ?_ | refine sF ?_ ?_) <;> intro h
        | refine clK_mk (hck) rfl ?_
        | simp only [go_sem, *])
      refine clK_ix hi rfl ?_
      repeat' (first
        | (with_reducible first | refine sA ?_ ?_ | refine sB ?_ ?_ | refine sC ?_ ?_ | refine sD ?_ ?_ | refine sE ?_ ?_ | refine sF ?_ ?_) <;> intro h
        | simp only [go_sem, *])
      rw [append_rf (esz := 1) (e := 38) (ag := false) (by kernel_rfl) (by kernel_rfl) (by kernel_rfl) rfl (by kernel_rfl) (fun x hx => by rw [List.mem_singleton.1 hx]; rfl) (hget_new _ _) (by simp; omega) (by simp)]
      rw [u64_cells, hset_new]
      have hdep2 := u64_dep ms 0
      simp only [List.length_cons, List.length_nil]
      repeat' (first
        | (with_reducible first | refine sA ?_ ?_ | refine sB ?_ ?_ | refine sC ?_ ?_ | refine sD ?_ ?_ | refine sE ?_ ?_ | refine sF ?_ ?_) <;> intro h
        | simp only [go_sem, *])
      refine clK_fx hmu (by simp only [go_sem, hdep2]) rfl ?_
      clear hdep2
      repeat' (first
        | (with_reducible first | refine sA ?_ ?_ | refine sB ?_ ?_ | refine sC ?_ ?_ | refine sD ?_ ?_ | refine sE ?_ ?_ | refine sF ?_ ?_) <;> intro h
        | refine clK_mk (hsm) rfl ?_
        | refine clK_mk (hco) rfl ?_
        | simp only [go_sem, *])
  · rw [show lprovW (out, last) row sc = (eqW out row.coefs sc && decide (last.z ≤ sc * row.const)) from if_neg h0]
    have g2 : ((sc : Int) == 0) = false := by simpa using h0
    have hfr := from_d sc hb.2
    cases mnn with
    | false =>
      have hne := hnil rfl
      subst hne
      clear hnil
      simp only [List.nil_append, List.map_cons, List.map_nil] at hmu
      simp only [List.length_nil] at g1
      refine dcall_mk orders Tryz.func37 rfl (by kernel_rfl) (fun d => d == 12 || d == 13 || d == 33 || d == 38) (by kernel_rfl) rfl (fun hs => ?_)
      clear hs
      repeat' (first
        | (with_reducible first | refine sA ?_ ?_ | refine sB ?_ ?_ | refine sC ?_ ?_ | refine sD ?_ ?_ | refine sE ?_ ?_ | refine sF ?_ ?_) <;> intro h
        | refine clK_mk (hck) rfl ?_
        | simp only [go_sem, *])
      refine clK_ix (cloneU64_nil _) rfl ?_
      repeat' (first
        | (with_reducible first | refine sA ?_ ?_ | refine sB ?_ ?_ | refine sC ?_ ?_ | refine sD ?_ ?_ | refine sE ?_ ?_ | refine sF ?_ ?_) <;> intro h
        | simp only [go_sem, *])
      rw [append_nilT (esz := 1) (e := 38) (by kernel_rfl) (by kernel_rfl) (by kernel_rfl) rfl (by kernel_rfl) (fun x hx => by rw [List.mem_singleton.1 hx]; rfl) (by simp) (by simp)]
      simp only [flat_cons, show flat [] = [] from rfl]
      repeat' (first
        | (with_reducible first | refine sA ?_ ?_ | refine sB ?_ ?_ | refine sC ?_ ?_ | refine sD ?_ ?_ | refine sE ?_ ?_ | refine sF ?_ ?_) <;> intro h
        | refine clK_mk (hmu) rfl ?_
        | refine clK_mk (hsm) rfl ?_
        | refine clK_mk (hfr) rfl ?_
        | simp only [go_sem, *])
      refine loop_range row.coefs (fun k s' => hget s'.hp (12, 0) = some ⟨last.cs.map .t, 2, 1, tWInt, true, true⟩ ∧ hget s'.hp (13, 0) = some ⟨(intC true sc).map .t, 2, 1, tWInt, true, true⟩ ∧ eqW out row.coefs sc = eqW (out.drop k) (row.coefs.drop k) sc) rfl rfl (by first | assumption | omega) (by kernel_rfl) (fun _ _ _ _ hj => hj) (fun _ _ _ hj => hj) ?_ (fun k x s' hx hd hk hJ hix hfr G hG => ?_) (fun s' hJ hfr => ?_)
      · exact ⟨rfl, rfl, rfl⟩
      · have c11 := hfr 11 (by kernel_rfl)
        have c13 := hfr 13 (by kernel_rfl)
        have c59 := hfr 59 (by kernel_rfl)
        clear hfr
        simp only [go_sem] at c11 c13 c59
        change _ = PV.ad (13, 0) 1 0 at c13
        obtain ⟨h12, h13, hJ⟩ := hJ
        obtain ⟨y, hy, hyd⟩ := get_of_lt out k (by omega)
        have hxs := smallB_abs (hr3 x (List.mem_of_getElem? hx))
        rw [hd, hyd, eqW] at hJ
        have hyf := (hle1 y (List.mem_of_getElem? hy)).fits (by omega)
        have ox := of_d x ⟨by omega, by omega⟩
        have mx := mul_d true true (sc : Int) x hfs (fits_i64 ⟨by omega, by omega⟩)
        have cx := cmp_d y.nn true y.z ((sc : Int) * x) hyf (mul_fits hxs hb.2)
        by_cases hyz : y.z = sc * x
        · rw [decide_eq_true hyz, Bool.true_and] at hJ
          rw [hyz, Int.sub_self, show Int.sign 0 = 0 from rfl] at cx
          clear hyf hxs
          repeat' (first
            | (with_reducible first | refine sA ?_ ?_ | refine sB ?_ ?_ | refine sC ?_ ?_ | refine sD ?_ ?_ | refine sE ?_ ?_ | refine sF ?_ ?_) <;> intro h
            | refine clK_mk (ox) rfl ?_
            | refine clK_mk (mx) rfl ?_
            | refine clK_mk (cx) rfl ?_
            | simp only [go_sem, *])
          all_goals exact hG _ ⟨by simp only [go_sem, h12], by simp only [go_sem, h13], hJ⟩
        · rw [decide_eq_false hyz, Bool.false_and] at hJ
          have g5 : ((y.z - sc * x).sign != 0) = true := by
            simp [Int.sign_eq_zero_iff_zero]; omega
          generalize (y.z - sc * x).sign = sg at *
          clear hyf hxs hyz
          repeat' (first
            | (with_reducible first | refine sA ?_ ?_ | refine sB ?_ ?_ | refine sC ?_ ?_ | refine sD ?_ ?_ | refine sE ?_ ?_ | refine sF ?_ ?_) <;> intro h
            | refine clK_mk (ox) rfl ?_
            | refine clK_mk (mx) rfl ?_
            | refine clK_mk (cx) rfl ?_
            | simp only [go_sem, *])
      · have c6 := hfr 6 (by kernel_rfl)
        have c12 := hfr 12 (by kernel_rfl)
        have c13 := hfr 13 (by kernel_rfl)
        clear hfr
        simp only [go_sem] at c6 c12 c13
        change _ = PV.ad (12, 0) 1 0 at c12
        change _ = PV.ad (13, 0) 1 0 at c13
        obtain ⟨h12, h13, hJ⟩ := hJ
        have hJ' : eqW out row.coefs sc = true := by rw [hJ, List.drop_length]; cases hdd : out.drop row.coefs.length <;> rfl
        rw [hJ', Bool.true_and]
        have hcs := smallB_abs hr2
        have ox := of_d row.const ⟨by omega, by omega⟩
        have mx := mul_d true true (sc : Int) row.const hfs (fits_i64 ⟨by omega, by omega⟩)
        have cx := cmp_d last.nn true last.z ((sc : Int) * row.const) (hle2.fits (by omega)) (mul_fits hcs hb.2)
        have g6 : decide ((last.z - sc * row.const).sign ≤ 0) = decide (last.z ≤ sc * row.const) := by
          rw [Bool.eq_iff_iff, decide_eq_true_iff, decide_eq_true_iff, Int.sign_nonpos_iff]; omega
        clear hJ hJ' hcs
        repeat' (first
          | (with_reducible first | refine sA ?_ ?_ | refine sB ?_ ?_ | refine sC ?_ ?_ | refine sD ?_ ?_ | refine sE ?_ ?_ | refine sF ?_ ?_) <;> intro h
          | refine clK_mk (ox) rfl ?_
          | refine clK_mk (mx) rfl ?_
          | refine clK_mk (cx) rfl ?_
          | simp only [go_sem, *])
    | true =>
      clear hnil
      have hi := cloneU64_i' ms (fun _ => []) (by omega)
      refine dcall_mk orders Tryz.func37 rfl (by kernel_rfl) (fun d => d == 12 || d == 13 || d == 33 || d == 38) (by kernel_rfl) rfl (fun hs => ?_)
      clear hs
      repeat' (first
        | (with_reducible first | refine sA ?_ ?_ | refine sB ?_ ?_ | refine sC ?_ ?_ | refine sD ?_ ?_ | refine sE ?_ ?_ | refine sF ?_ ?_) <;> intro h
        | refine clK_mk (hck) rfl ?_
        | simp only [go_sem, *])
      refine clK_ix hi rfl ?_
      repeat' (first
        | (with_reducible first | refine sA ?_ ?_ | refine sB ?_ ?_ | refine sC ?_ ?_ | refine sD ?_ ?_ | refine sE ?_ ?_ | refine sF ?_ ?_) <;> intro h
        | simp only [go_sem, *])
      rw [append_rf (esz := 1) (e := 38) (ag := false) (by kernel_rfl) (by kernel_rfl) (by kernel_rfl) rfl (by kernel_rfl) (fun x hx => by rw [List.mem_singleton.1 hx]; rfl) (hget_new _ _) (by simp; omega) (by simp)]
      rw [u64_cells, hset_new]
      have hdep2 := u64_dep ms sc
      simp only [List.length_cons, List.length_nil]
      repeat' (first
        | (with_reducible first | refine sA ?_ ?_ | refine sB ?_ ?_ | refine sC ?_ ?_ | refine sD ?_ ?_ | refine sE ?_ ?_ | refine sF ?_ ?_) <;> intro h
        | simp only [go_sem, *])
      refine clK_fx hmu (by simp only [go_sem, hdep2]) rfl ?_
      clear hdep2
      generalize frz _ _ = HF
      repeat' (first
        | (with_reducible first | refine sA ?_ ?_ | refine sB ?_ ?_ | refine sC ?_ ?_ | refine sD ?_ ?_ | refine sE ?_ ?_ | refine sF ?_ ?_) <;> intro h
        | refine clK_mk (hsm) rfl ?_
        | refine clK_mk (hfr) rfl ?_
        | simp only [go_sem, *])
      refine loop_range row.coefs (fun k s' => hget s'.hp (hnext HF 12) = some ⟨last.cs.map .t, 2, 1, tWInt, true, true⟩ ∧ hget s'.hp (hnext HF 13) = some ⟨(intC true sc).map .t, 2, 1, tWInt, true, true⟩ ∧ eqW out row.coefs sc = eqW (out.drop k) (row.coefs.drop k) sc) rfl rfl (by first | assumption | omega) (by kernel_rfl) (fun _ _ _ _ hj => hj) (fun _ _ _ hj => hj) ?_ (fun k x s' hx hd hk hJ hix hfr G hG => ?_) (fun s' hJ hfr => ?_)
      · refine ⟨?_, ?_, rfl⟩
        · simp only [go_sem, ]
        · rw [← hnext_new_ne (h := HF) (s := 12) (d := 13) _ rfl]; exact hget_new _ _
      · have c11 := hfr 11 (by kernel_rfl)
        have c13 := hfr 13 (by kernel_rfl)
        have c59 := hfr 59 (by kernel_rfl)
        clear hfr
        simp only [go_sem] at c11 c13 c59
        rw [hnext_new_ne _ rfl] at c13
        obtain ⟨h12, h13, hJ⟩ := hJ
        obtain ⟨y, hy, hyd⟩ := get_of_lt out k (by omega)
        have hxs := smallB_abs (hr3 x (List.mem_of_getElem? hx))
        rw [hd, hyd, eqW] at hJ
        have hyf := (hle1 y (List.mem_of_getElem? hy)).fits (by omega)
        have ox := of_d x ⟨by omega, by omega⟩
        have mx := mul_d true true (sc : Int) x hfs (fits_i64 ⟨by omega, by omega⟩)
        have cx := cmp_d y.nn true y.z ((sc : Int) * x) hyf (mul_fits hxs hb.2)
        by_cases hyz : y.z = sc * x
        · rw [decide_eq_true hyz, Bool.true_and] at hJ
          rw [hyz, Int.sub_self, show Int.sign 0 = 0 from rfl] at cx
          clear hyf hxs
          repeat' (first
            | (with_reducible first | refine sA ?_ ?_ | refine sB ?_ ?_ | refine sC ?_ ?_ | refine sD ?_ ?_ | refine sE ?_ ?_ | refine sF ?_ ?_) <;> intro h
            | refine clK_mk (ox) rfl ?_
            | refine clK_mk (mx) rfl ?_
            | refine clK_mk (cx) rfl ?_
            | simp only [go_sem, *])
          all_goals exact hG _ ⟨h12, h13, hJ⟩
        · rw [decide_eq_false hyz, Bool.false_and] at hJ
          have g5 : ((y.z - sc * x).sign != 0) = true := by
            simp [Int.sign_eq_zero_iff_zero]; omega
          generalize (y.z - sc * x).sign = sg at *
          clear hyf hxs hyz
          repeat' (first
            | (with_reducible first | refine sA ?_ ?_ | refine sB ?_ ?_ | refine sC ?_ ?_ | refine sD ?_ ?_ | refine sE ?_ ?_ | refine sF ?_ ?_) <;> intro h
            | refine clK_mk (ox) rfl ?_
            | refine clK_mk (mx) rfl ?_
            | refine clK_mk (cx) rfl ?_
            | simp only [go_sem, *])
      · have c6 := hfr 6 (by kernel_rfl)
        have c12 := hfr 12 (by kernel_rfl)
        have c13 := hfr 13 (by kernel_rfl)
        clear hfr
        simp only [go_sem] at c6 c12 c13
        rw [hnext_new_ne _ rfl] at c13
        obtain ⟨h12, h13, hJ⟩ := hJ
        have hJ' : eqW out row.coefs sc = true := by rw [hJ, List.drop_length]; cases hdd : out.drop row.coefs.length <;> rfl
        rw [hJ', Bool.true_and]
        have hcs := smallB_abs hr2
        have ox := of_d row.const ⟨by omega, by omega⟩
        have mx := mul_d true true (sc : Int) row.const hfs (fits_i64 ⟨by omega, by omega⟩)
        have cx := cmp_d last.nn true last.z ((sc : Int) * row.const) (hle2.fits (by omega)) (mul_fits hcs hb.2)
        have g6 : decide ((last.z - sc * row.const).sign ≤ 0) = decide (last.z ≤ sc * row.const) := by
          rw [Bool.eq_iff_iff, decide_eq_true_iff, decide_eq_true_iff, Int.sign_nonpos_iff]; omega
        clear hJ hJ' hcs
        repeat' (first
          | (with_reducible first | refine sA ?_ ?_ | refine sB ?_ ?_ | refine sC ?_ ?_ | refine sD ?_ ?_ | refine sE ?_ ?_ | refine sF ?_ ?_) <;> intro h
          | refine clK_mk (ox) rfl ?_
          | refine clK_mk (mx) rfl ?_
          | refine clK_mk (cx) rfl ?_
          | simp only [go_sem, *])
end YtajgclnahfmfmaaGreat
end Go.Vm
end
section
namespace Go.Vm
open Go
section
variable (P : Program)
abbrev Caller := (Nat → Bool) → Bool → Oper → St → FuncId → List PV → Option St
def xG (call : Caller) (mu : Nat → Bool) (dr : Bool) (all : List Oper) (o : Oper) (s : St) : Option St :=
  match guardRun all s.sl o with
  | some true => match callPart s.sl o with
    | some (some (g, args)) => call mu dr o s g args
    | some none => none
    | none => if dr && !bare mu o s.sl then none else match evalOp P mu o s with
      | some (v, h) => some (St.put { s with hp := h } o.dst v)
      | none => none
  | some false => some (St.put s o.dst .skip)
  | none => none
def xOps (call : Caller) (mu : Nat → Bool) (dr : Bool) (all : List Oper) : List Oper → St → Option St
  | [], s => some s
  | o :: r, s => match xG P call mu dr all o s with
    | some s' => xOps call mu dr all r s'
    | none => none
def xLoop (f : St → Option (Ex × St)) : Nat → St → Option (Ex × St)
  | 0, _ => none
  | n + 1, s => match f s with
    | some (.normal, s') => xLoop f n s'
    | r => r
def xRun (call : Caller) (mu : Nat → Bool) (n : Nat) : Code → St → Option (Ex × St)
  | .skip, s => some (.normal, s)
  | .ret, s => some (.ret, s)
  | .exit k, s => some (.exit k, s)
  | .region _ ops dr, s => match xOps P call mu dr ops.toList ops.toList s with
    | some s' => some (.normal, s')
    | none => none
  | .seq a b, s => match xRun call mu n a s with
    | some (.normal, s') => xRun call mu n b s'
    | r => r
  | .cond c a b, s => match boolOf (ev s.sl c) with
    | some true => xRun call mu n a s
    | some false => xRun call mu n b s
    | none => none
  | .block id b, s => match xRun call mu n b s with
    | some (.exit k, s') => if k = id then some (.normal, s') else some (.exit k, s')
    | r => r
  | .loop b, s => xLoop (fun s => xRun call mu n b s) n s
  | _, _ => none
structure Fn where
  id : FuncId
  fn : Func
  code : Code
  mu : Nat → Bool
  sh : Bool
def Fn.Ok (f : Fn) : Prop := P.funcs[f.id]? = some f.fn ∧ f.fn.body = some f.code ∧ (f.fn.name == "runtime.NumGoroutine") = false ∧ codeOK f.mu f.fn.ntmps f.code = true
def findFn (g : FuncId) : List Fn → Option Fn
  | [] => none
  | f :: r => if f.id = g then some f else findFn g r
theorem findFn_some {g : FuncId} : ∀ {l : List Fn} {f : Fn}, findFn g l = some f → f ∈ l ∧ f.id = g
  | [], f, h => by simp [findFn] at h
  | x :: r, f, h => by
    simp only [findFn] at h
    split at h
    · rename_i e; cases h; exact ⟨by simp, e⟩
    · obtain ⟨h1, h2⟩ := findFn_some h; exact ⟨by simp [h1], h2⟩
variable (orc : FuncId → List Tr → Option Tr) (fs : List Fn)
mutual
def xPure : Nat → FuncId → List Tr → Option Tr
  | 0, _, _ => none
  | n + 1, g, ts => match orc g ts with
    | some r => some r
    | none => match findFn g fs with
      | some f => if ts.length ≤ f.fn.ntmps then (match xRun P (xCall n) f.mu 1000 f.code (initSt ts) with
        | some (.exit _, _) => none
        | some (_, s) => resTr P s f.fn.results.toList
        | none => none) else none
      | none => none
def xShared : Nat → FuncId → List PV → Hp → Option (PV × Hp)
  | 0, _, _, _ => none
  | n + 1, g, args, h => match findFn g fs with
    | some f => if f.sh = true ∧ args.length ≤ f.fn.ntmps then (match xRun P (xCall n) f.mu 1000 f.code (initStI args h) with
      | some (.exit _, _) => none
      | some (_, s) => match resI P s f.fn.results.toList with
        | some r => some (r, s.hp)
        | none => none
      | none => none) else none
    | none => none
def xCall : Nat → Caller
  | 0, _, _, _, _, _, _ => none
  | n + 1, mu, dr, o, s, g, args => match xShared n g args s.hp with
    | some (v, h) => if dr && !fatB mu o.dst then none else some (St.put { s with hp := h } o.dst v)
    | none => match mapO (toTr s.hp dep) args with
      | some ts => match xPure n g ts with
        | some r => if dr then (match trees args with
            | some _ => some (St.put s o.dst (.t r))
            | none => if fatB mu o.dst then some (St.put { s with hp := frz s.hp (args.flatMap (reach s.hp dep)) } o.dst (.t r)) else none)
          else if r.scalar then some (St.put s o.dst (.t r)) else some (St.put { s with hp := frz s.hp (args.flatMap (reach s.hp dep)) } o.dst (.t r))
        | none => none
      | none => none
end
variable {P orc fs}
def CallOk (P : Program) (call : Caller) : Prop := ∀ mu dr o s g args s', call mu dr o s g args = some s' → ∀ K : St → Prop, K s' → callW P mu dr o s g args K
theorem xG_sound {call : Caller} (hc : CallOk P call) {mu : Nat → Bool} {dr : Bool} {all : List Oper} {o : Oper} {s s' : St} (h : xG P call mu dr all o s = some s') (K : St → Prop) (hK : K s') : opG P mu dr all o s K := by
  unfold xG at h
  unfold opG
  split at h
  · rename_i hg
    rw [hg]
    refine ⟨fun _ => ?_, fun h => by cases h⟩
    unfold opW
    split at h
    · rename_i g args hp
      rw [hp]
      exact hc _ _ _ _ _ _ _ h K hK
    · cases h
    · rename_i hp
      rw [hp]
      unfold plainW
      cases hnp : nextPart s.sl o with
      | some p =>
        have he : evalOp P mu o s = none := by
          unfold nextPart at hnp
          split at hnp
          · rename_i x hop; unfold evalOp; simp only [hop]
          · cases hnp
        rw [he] at h
        split at h <;> cases h
      | none =>
      simp only
      split at h
      · cases h
      · rename_i hb
        refine ⟨fun hd => ?_, ?_⟩
        · cases hbb : bare mu o s.sl with
          | true => rfl
          | false => rw [hd, hbb] at hb; exact absurd rfl hb
        · split at h
          · rename_i v hh he
            cases h
            rw [he]; exact hK
          · cases h
  · rename_i hg
    rw [hg]
    cases h
    exact ⟨fun h => (nomatch h), fun _ => hK⟩
  · cases h
theorem xOps_sound {call : Caller} (hc : CallOk P call) {mu : Nat → Bool} {dr : Bool} {all : List Oper} : ∀ (l : List Oper) (s s' : St), xOps P call mu dr all l s = some s' → ∀ K : St → Prop, K s' → opsW P mu dr all l s K
  | [], s, s', h, K, hK => by simp only [xOps, Option.some.injEq] at h; subst h; exact hK
  | o :: r, s, s', h, K, hK => by
    simp only [xOps] at h
    split at h
    · rename_i s1 h1
      exact xG_sound hc h1 _ (xOps_sound hc r s1 s' h K hK)
    · cases h
theorem xRun_sound {call : Caller} (hc : CallOk P call) {mu : Nat → Bool} {n : Nat} : ∀ (c : Code) (s : St) (e : Ex) (s' : St), xRun P call mu n c s = some (e, s') → ∀ K : Ex → St → Prop, K e s' → wp P mu c s K := by
  intro c
  induction c with
  | skip => intro s e s' h K hK; simp only [xRun, Option.some.injEq, Prod.mk.injEq] at h; obtain ⟨rfl, rfl⟩ := h; exact hK
  | ret => intro s e s' h K hK; simp only [xRun, Option.some.injEq, Prod.mk.injEq] at h; obtain ⟨rfl, rfl⟩ := h; exact hK
  | exit k => intro s e s' h K hK; simp only [xRun, Option.some.injEq, Prod.mk.injEq] at h; obtain ⟨rfl, rfl⟩ := h; exact hK
  | region id ops dr =>
    intro s e s' h K hK
    simp only [xRun] at h
    split at h
    · rename_i s1 h1
      simp only [Option.some.injEq, Prod.mk.injEq] at h; obtain ⟨rfl, rfl⟩ := h
      exact xOps_sound hc _ _ _ h1 _ hK
    · cases h
  | seq a b iha ihb =>
    intro s e s' h K hK
    simp only [xRun] at h
    simp only [wp]
    split at h
    · rename_i s1 h1
      exact iha _ _ _ h1 _ (ihb _ _ _ h K hK)
    · rename_i hne
      refine iha _ _ _ h _ ?_
      cases e with
      | normal => exact absurd h (hne s')
      | exit k => exact hK
      | ret => exact hK
  | cond c a b iha ihb =>
    intro s e s' h K hK
    simp only [xRun] at h
    simp only [wp]
    split at h
    · rename_i hb; rw [hb]; exact ⟨fun _ => iha _ _ _ h K hK, fun h => by cases h⟩
    · rename_i hb; rw [hb]; exact ⟨fun h => (nomatch h), fun _ => ihb _ _ _ h K hK⟩
    · cases h
  | block id b ih =>
    intro s e s' h K hK
    simp only [xRun] at h
    simp only [wp]
    split at h
    · rename_i k s1 h1
      refine ih _ _ _ h1 _ ?_
      simp only
      split at h
      · rename_i hk
        simp only [Option.some.injEq, Prod.mk.injEq] at h; obtain ⟨rfl, rfl⟩ := h
        rw [if_pos hk]; exact hK
      · rename_i hk
        simp only [Option.some.injEq, Prod.mk.injEq] at h; obtain ⟨rfl, rfl⟩ := h
        rw [if_neg hk]; exact hK
    · rename_i hne
      refine ih _ _ _ h _ ?_
      cases e with
      | normal => exact hK
      | exit k => exact absurd h (hne k s')
      | ret => exact hK
  | loop b ih =>
    intro s e s' h K hK
    simp only [xRun] at h
    simp only [wp]
    refine ⟨fun m s => xLoop (fun s => xRun P call mu n b s) m s = some (e, s'), n, h, ?_⟩
    intro m t hm
    cases m with
    | zero => simp [xLoop] at hm
    | succ m =>
      simp only [xLoop] at hm
      split at hm
      · rename_i t1 h1
        exact ih _ _ _ h1 _ ⟨m, by omega, hm⟩
      · rename_i hne
        refine ih _ _ _ hm _ ?_
        cases e with
        | normal => exact absurd hm (hne s')
        | exit k => exact hK
        | ret => exact hK
  | _ => intro s e s' h; simp [xRun] at h
theorem xAll_sound (hm : P.follows .mixedOrders = true) (horc : ∀ g ts r, orc g ts = some r → DCall P g ts r) (hfs : ∀ f ∈ fs, f.Ok P) : ∀ n : Nat,
    (∀ g ts r, xPure P orc fs n g ts = some r → DCall P g ts r) ∧
    (∀ g args h v h', xShared P orc fs n g args h = some (v, h') → ICall P g args h (fun v' h'' => v' = v ∧ h'' = h')) ∧
    CallOk P (xCall P orc fs n) := by
  intro n
  induction n with
  | zero => exact ⟨fun g ts r h => by simp [xPure] at h, fun g args h v h' hh => by simp [xShared] at hh, fun mu dr o s g args s' h => by simp [xCall] at h⟩
  | succ n ih =>
    obtain ⟨ih1, ih2, ih3⟩ := ih
    refine ⟨fun g ts r h => ?_, fun g args h v h' hh => ?_, fun mu dr o s g args s' h K hK => ?_⟩
    · simp only [xPure] at h
      split at h
      · rename_i r' hr; cases h; exact horc _ _ _ hr
      · split at h
        · rename_i f hf
          obtain ⟨hmem, rfl⟩ := findFn_some hf
          obtain ⟨k1, k2, k3, k4⟩ := hfs f hmem
          split at h
          · rename_i hlen
            refine dcall_of_wp hm k1 k2 k3 f.mu k4 hlen ?_
            split at h
            · cases h
            · rename_i e s hne hr
              refine xRun_sound ih3 _ _ _ _ hr _ ?_
              cases e with
              | normal => exact h
              | ret => exact h
              | exit k => exact (hne k rfl).elim
            · cases h
          · cases h
        · cases h
    · simp only [xShared] at hh
      split at hh
      · rename_i f hf
        obtain ⟨hmem, rfl⟩ := findFn_some hf
        obtain ⟨k1, k2, k3, k4⟩ := hfs f hmem
        split at hh
        · rename_i hlen
          refine icall_of_wp hm k1 k2 k3 f.mu k4 hlen.2 ?_
          split at hh
          · cases hh
          · rename_i e s hne hr
            refine xRun_sound ih3 _ _ _ _ hr _ ?_
            have fin : ∃ r, resI P s f.fn.results.toList = some r ∧ (r = v ∧ s.hp = h') := by
              split at hh
              · rename_i r hr2
                simp only [Option.some.injEq, Prod.mk.injEq] at hh
                exact ⟨r, hr2, hh⟩
              · cases hh
            cases e with
            | normal => exact fin
            | ret => exact fin
            | exit k => exact (hne k rfl).elim
          · cases hh
        · cases hh
      · cases hh
    · simp only [xCall] at h
      split at h
      · rename_i v h1 hs
        have hi := ih2 _ _ _ _ _ hs
        split at h
        · cases h
        · rename_i hb
          cases h
          unfold callW
          cases dr with
          | true =>
            rw [if_pos rfl]
            refine .inr (.inl ⟨?_, v, h1, .inl hi, hK⟩)
            cases hf : fatB mu o.dst with
            | true => rfl
            | false => rw [hf] at hb; exact absurd rfl hb
          | false =>
            rw [if_neg (by simp)]
            refine .inr ⟨hi.1, fun w A μ vs hr hl hv => ?_⟩
            exact (hi.2 w A μ vs hr hl hv).mono (by
              rintro e w' ⟨v1, r, h2, μ', e1, ⟨rfl, rfl⟩, e3⟩
              exact ⟨v1, _, _, μ', e1, hK, e3⟩)
      · split at h
        · rename_i ts hts
          split at h
          · rename_i r hr
            have hd := ih1 _ _ _ hr
            unfold callW
            cases dr with
            | true =>
              rw [if_pos rfl]
              rw [if_pos rfl] at h
              split at h
              · rename_i ts' ht
                cases h
                have : ts' = ts := by
                  have e := trees_get ht
                  rw [e, mapO_t] at hts
                  exact Option.some.inj hts
                subst this
                exact .inl ⟨ts', r, ht, hd, hK⟩
              · split at h
                · rename_i hf
                  cases h
                  exact .inr (.inl ⟨hf, _, _, .inr ⟨ts, r, hts, hd, rfl, rfl⟩, hK⟩)
                · cases h
            | false =>
              rw [if_neg (by simp)]
              rw [if_neg (by simp)] at h
              refine .inl ⟨ts, r, hts, hd, ?_⟩
              split at h
              · rename_i hsc
                cases h
                rw [if_pos hsc]; exact hK
              · rename_i hsc
                cases h
                rw [if_neg hsc]; exact hK
          · cases h
        · cases h
end
end Go.Vm
end
