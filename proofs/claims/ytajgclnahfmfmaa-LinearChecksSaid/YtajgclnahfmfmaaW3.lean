/- Integers of any size: products. -/
import Derived.Test.YtajgclnahfmfmaaW2
set_option linter.unusedSimpArgs false
set_option maxRecDepth 10000
namespace Go.Vm
open Go Go.Proofs Go.Whole
namespace Ytajgclnahfmfmaa
open Go.Proofs.Try

theorem macL_ne (a : Nat) (y o : List Nat) (c : Nat) : macL a y o c ≠ [] := by cases y <;> simp [macL]
theorem mac_room {a b c x : Nat} (ha : a < B) (hb : b < B) (hc : c < B) (hx : x < B) : c + (a * b + x) < 18446744073709551616 ∧ (c + a * b + x) / B < B ∧ a * b < 18446744073709551616 ∧ a * b + x < 18446744073709551616 := by
  have hab : a * b ≤ (B - 1) * (B - 1) := Nat.mul_le_mul (by omega) (by omega)
  have e1 : (B - 1) * (B - 1) = 18446744065119617025 := by decide
  refine ⟨?_, ?_, ?_, ?_⟩
  · rw [B_eq] at hc hx; omega
  · rw [Nat.div_lt_iff_lt_mul B_pos]
    have : B * B = 18446744073709551616 := by decide
    rw [B_eq] at hc hx; omega
  · omega
  · rw [B_eq] at hx; omega
theorem okD_set {l : List Nat} (h : okD l) {k v : Nat} (hv : v < B) : okD (l.set k v) := fun d hd => by
  rcases List.mem_or_eq_of_mem_set hd with h1 | h1
  · exact h d h1
  · rw [h1]; exact hv
theorem drop_set_gt {l : List Nat} {k v : Nat} : (l.set k v).drop (k + 1) = l.drop (k + 1) := by
  rw [List.drop_set_of_lt (by omega)]

theorem mul_raw (xn yn : Bool) (X Y : List Nat) (sx sy : Bool) (z : Int) (hX : okD X) (hY : okD Y) (hx1 : X.length ≤ 1000000) (hy1 : Y.length ≤ 1000000)
    (hres : DCall Try.prog 104 [.sl true (dl (mulL X Y (List.replicate (X.length + Y.length) 0))), .bool (sx != sy)] (encI true z)) :
    DCall Try.prog 72 [.agg [.sl xn (dl X), .bool sx], .agg [.sl yn (dl Y), .bool sy]] (encI true z) := by
  refine dcall_mk orders Try.func72 rfl (by kernel_rfl) (fun d => d == 4 || d == 18) (by kernel_rfl) rfl (fun hs => ?_)
  clear hs
  obtain ⟨L, hL⟩ : ∃ L, L = X.length + Y.length := ⟨_, rfl⟩
  rw [← hL] at hres
  have f1 : IntKind.i64.wrap ((X.length : Int) + (Y.length : Int)) = (L : Int) := by rw [hL, ← Int.natCast_add]; exact wrap_i64 (by omega) (by omega)
  have hL1 : L ≤ X.length + Y.length := by omega
  have hL2 : X.length + Y.length ≤ L := by omega
  clear hL
  repeat' (first
    | with_reducible refine cdK_splitN (fun h => ?_) (fun h => ?_)
    | with_reducible refine gdK_splitTN (fun h => ?_) (fun h => ?_)
    | with_reducible refine gdK_splitFN (fun h => ?_) (fun h => ?_)
    | with_reducible refine cdK_split (fun h => ?_) (fun h => ?_)
    | with_reducible refine gdK_splitT (fun h => ?_) (fun h => ?_)
    | with_reducible refine gdK_splitF (fun h => ?_) (fun h => ?_)
    | simp only [go_sem, Nat.reduceBEq, Nat.reduceAdd, Nat.reduceMul, Nat.reduceSub, Nat.reduceLeDiff, Nat.reduceLT, Nat.reduceEqDiff, Int.reduceEq, Int.reduceBEq, Int.reduceBNe, Int.reduceLT, Int.reduceLE, *])
  refine hpK_if ⟨by omega, by omega⟩ ?_
  repeat' (first
    | with_reducible refine cdK_splitN (fun h => ?_) (fun h => ?_)
    | with_reducible refine gdK_splitTN (fun h => ?_) (fun h => ?_)
    | with_reducible refine gdK_splitFN (fun h => ?_) (fun h => ?_)
    | with_reducible refine cdK_split (fun h => ?_) (fun h => ?_)
    | with_reducible refine gdK_splitT (fun h => ?_) (fun h => ?_)
    | with_reducible refine gdK_splitF (fun h => ?_) (fun h => ?_)
    | simp only [go_sem, Nat.reduceBEq, Nat.reduceAdd, Nat.reduceMul, Nat.reduceSub, Nat.reduceLeDiff, Nat.reduceLT, Nat.reduceEqDiff, Int.reduceEq, Int.reduceBEq, Int.reduceBNe, Int.reduceLT, Int.reduceLE, *])
  refine loop_range X (fun k s' => ∃ cur : List Nat, hget s'.hp (18, 0) = some ⟨(dl cur).map .t, 1, L, tU32, false, true⟩ ∧ hget s'.hp (4, 0) = some ⟨[.t (.sl false []), .t (.bool false)], 2, 1, tWInt, true, true⟩ ∧ cur.length = L ∧ okD cur ∧ mulL X Y (List.replicate L 0) = cur.take k ++ mulL (X.drop k) Y (cur.drop k)) rfl rfl (by first | assumption | omega) (by kernel_rfl) (fun _ _ _ _ hj => hj) (fun _ _ _ hj => hj) ?_ (fun k x s' hx hd hk hJ hix hfr G hG => ?_) (fun s' hJ hfr => ?_)
  · exact ⟨List.replicate L 0, rfl, rfl, by simp, okD_zeros L, by simp⟩
  · have c3 := hfr 3 (by kernel_rfl)
    have c4 := hfr 4 (by kernel_rfl)
    have c5 := hfr 5 (by kernel_rfl)
    have c20 := hfr 20 (by kernel_rfl)
    clear hfr
    simp only [go_sem, Nat.reduceBEq, Nat.reduceAdd, Nat.reduceMul, Nat.reduceSub, Nat.reduceLeDiff, Nat.reduceLT, Nat.reduceEqDiff, Int.reduceEq, Int.reduceBEq, Int.reduceBNe, Int.reduceLT, Int.reduceLE] at c3 c4 c5 c20
    change _ = PV.rf (18, 0) L at c5
    change _ = PV.ad (4, 0) 1 0 at c4
    obtain ⟨cur, h18, h4, hcl, hco, hJ⟩ := hJ
    rw [hd, mulL] at hJ
    have hxB := hX x (List.mem_of_getElem? hx)
    have e3 := c3
    have e4 := c4
    have e5 := c5
    obtain ⟨i, hik⟩ : ∃ i, i = k := ⟨_, rfl⟩
    subst hik
    obtain ⟨a, hax⟩ : ∃ a, a = x := ⟨_, rfl⟩
    subst hax
    have hki : i + Y.length < cur.length := by omega
    have hk1 : (macL a Y (cur.drop i) 0) ≠ [] := macL_ne _ _ _ _
    repeat' (first
      | with_reducible refine cdK_splitN (fun h => ?_) (fun h => ?_)
      | with_reducible refine gdK_splitTN (fun h => ?_) (fun h => ?_)
      | with_reducible refine gdK_splitFN (fun h => ?_) (fun h => ?_)
      | with_reducible refine cdK_split (fun h => ?_) (fun h => ?_)
      | with_reducible refine gdK_splitT (fun h => ?_) (fun h => ?_)
      | with_reducible refine gdK_splitF (fun h => ?_) (fun h => ?_)
      | simp only [go_sem, Nat.reduceBEq, Nat.reduceAdd, Nat.reduceMul, Nat.reduceSub, Nat.reduceLeDiff, Nat.reduceLT, Nat.reduceEqDiff, Int.reduceEq, Int.reduceBEq, Int.reduceBNe, Int.reduceLT, Int.reduceLE, *])
    refine loop_range Y (fun k s' => ∃ (o : List Nat) (c : Nat), s'.sl 8 = .t (.int .u64 (c : Int)) ∧ hget s'.hp (18, 0) = some ⟨(dl o).map .t, 1, L, tU32, false, true⟩ ∧ hget s'.hp (4, 0) = some ⟨[.t (.sl false []), .t (.bool false)], 2, 1, tWInt, true, true⟩ ∧ o.length = L ∧ okD o ∧ c < B ∧ cur.take i ++ macL a Y (cur.drop i) 0 = o.take (i + k) ++ macL a (Y.drop k) (o.drop (i + k)) c) rfl rfl (by first | assumption | omega) (by kernel_rfl) (fun _ _ _ _ hj => hj) (fun _ _ _ hj => hj) ?_ (fun k x s' hx hd hk hJ hix hfr G hG => ?_) (fun s' hJ hfr => ?_)
    · exact ⟨cur, 0, rfl, h18, h4, hcl, hco, B_pos, rfl⟩
    · have c5 := hfr 5 (by kernel_rfl)
      have c6 := hfr 6 (by kernel_rfl)
      have c7 := hfr 7 (by kernel_rfl)
      have c28 := hfr 28 (by kernel_rfl)
      clear hfr
      simp only [go_sem, Nat.reduceBEq, Nat.reduceAdd, Nat.reduceMul, Nat.reduceSub, Nat.reduceLeDiff, Nat.reduceLT, Nat.reduceEqDiff, Int.reduceEq, Int.reduceBEq, Int.reduceBNe, Int.reduceLT, Int.reduceLE] at c5 c6 c7 c28
      obtain ⟨o, c, h8, h18, h4, hol, hoo, hcB, hJ2⟩ := hJ
      rw [e5] at c5
      have hxB2 := hY x (List.mem_of_getElem? hx)
      have hio : i + k < o.length := by omega
      have hio1 : i + k < L := by omega
      have hio2 : i + k + 1 ≤ L := hio1
      have g1 : IntKind.i64.wrap ((i : Int) + (k : Int)) = ((i + k : Nat) : Int) := by rw [← Int.natCast_add]; exact wrap_i64 (by omega) (by omega)
      have g2 := get_headD hio
      have hoB := okD_head (okD_drop hoo (i + k))
      rw [hd, macL, drop_tail] at hJ2
      generalize (o.drop (i + k)).headD 0 = u at *
      obtain ⟨r1, r2, r3, r4⟩ := mac_room hxB hxB2 hcB hoB
      have w1 := wrap_u64_lt (n := a) (by rw [B_eq] at hxB; omega)
      have w2 := wrap_u64_lt (n := x) (by rw [B_eq] at hxB2; omega)
      have w3 := wrap_u64_lt (n := u) (by rw [B_eq] at hoB; omega)
      have w4 := u64_mul a x
      rw [Nat.mod_eq_of_lt r3] at w4
      have w5 := u64_add (a * x) u
      rw [Nat.mod_eq_of_lt r4] at w5
      have w6 := u64_add c (a * x + u)
      rw [Nat.mod_eq_of_lt r1, ← Nat.add_assoc] at w6
      have w7 := wrap_u32 (c + a * x + u)
      have w8 : (c + a * x + u) / 4294967296 = (c + a * x + u) / B := rfl
      repeat' (first
        | with_reducible refine cdK_splitN (fun h => ?_) (fun h => ?_)
        | with_reducible refine gdK_splitTN (fun h => ?_) (fun h => ?_)
        | with_reducible refine gdK_splitFN (fun h => ?_) (fun h => ?_)
        | with_reducible refine cdK_split (fun h => ?_) (fun h => ?_)
        | with_reducible refine gdK_splitT (fun h => ?_) (fun h => ?_)
        | with_reducible refine gdK_splitF (fun h => ?_) (fun h => ?_)
        | simp only [go_sem, Nat.reduceBEq, Nat.reduceAdd, Nat.reduceMul, Nat.reduceSub, Nat.reduceLeDiff, Nat.reduceLT, Nat.reduceEqDiff, Int.reduceEq, Int.reduceBEq, Int.reduceBNe, Int.reduceLT, Int.reduceLE, *])
      refine hG _ ⟨o.set (i + k) ((c + a * x + u) % B), (c + a * x + u) / B, rfl, ?_, ?_, by simp [hol], okD_set hoo (Nat.mod_lt _ B_pos), r2, ?_⟩
      · simp only [go_sem, Nat.reduceBEq, Nat.reduceAdd, Nat.reduceMul, Nat.reduceSub, Nat.reduceLeDiff, Nat.reduceLT, Nat.reduceEqDiff, Int.reduceEq, Int.reduceBEq, Int.reduceBNe, Int.reduceLT, Int.reduceLE, h18]
      · simp only [go_sem, Nat.reduceBEq, Nat.reduceAdd, Nat.reduceMul, Nat.reduceSub, Nat.reduceLeDiff, Nat.reduceLT, Nat.reduceEqDiff, Int.reduceEq, Int.reduceBEq, Int.reduceBNe, Int.reduceLT, Int.reduceLE, h4]
      · rw [← Nat.add_assoc, take_set_succ _ _ _ hio, drop_set_gt, hJ2]; simp
    · obtain ⟨o, c, h8, h18, h4, hol, hoo, hcB, hJ2⟩ := hJ
      have c3 := hfr 3 (by kernel_rfl)
      have c5 := hfr 5 (by kernel_rfl)
      have c6 := hfr 6 (by kernel_rfl)
      clear hfr
      simp only [go_sem, Nat.reduceBEq, Nat.reduceAdd, Nat.reduceMul, Nat.reduceSub, Nat.reduceLeDiff, Nat.reduceLT, Nat.reduceEqDiff, Int.reduceEq, Int.reduceBEq, Int.reduceBNe, Int.reduceLT, Int.reduceLE] at c3 c5 c6
      rw [e5] at c5
      rw [e3] at c3
      have hio : i + Y.length < o.length := by omega
      have hio1 : i + Y.length < L := by omega
      have hio2 : i + Y.length + 1 ≤ L := hio1
      have g1 : IntKind.i64.wrap ((i : Int) + (Y.length : Int)) = ((i + Y.length : Nat) : Int) := by rw [← Int.natCast_add]; exact wrap_i64 (by omega) (by omega)
      have w7 := wrap_u32_lt hcB
      have w8 := Nat.mod_eq_of_lt hcB
      rw [List.drop_length, macL, w8, List.tail_drop] at hJ2
      have hset : cur.take i ++ macL a Y (cur.drop i) 0 = o.set (i + Y.length) c := by
        rw [hJ2, ← List.take_append_drop (i + Y.length + 1) (o.set (i + Y.length) c), take_set_succ _ _ _ hio, drop_set_gt]; simp
      have hti : (cur.take i).length = i := by rw [List.length_take]; omega
      obtain ⟨m0, ms, hm⟩ := List.exists_cons_of_ne_nil hk1
      rw [hm] at hset hJ
      have ht : (o.set (i + Y.length) c).take (i + 1) = cur.take i ++ [m0] := by
        rw [← hset, show cur.take i ++ m0 :: ms = (cur.take i ++ [m0]) ++ ms by simp]
        exact List.take_left' (by simp [hti])
      have hdr : (o.set (i + Y.length) c).drop (i + 1) = ms := by
        rw [← hset, show cur.take i ++ m0 :: ms = (cur.take i ++ [m0]) ++ ms by simp]
        exact List.drop_left' (by simp [hti])
      clear hm hk1 hset
      repeat' (first
        | with_reducible refine cdK_splitN (fun h => ?_) (fun h => ?_)
        | with_reducible refine gdK_splitTN (fun h => ?_) (fun h => ?_)
        | with_reducible refine gdK_splitFN (fun h => ?_) (fun h => ?_)
        | with_reducible refine cdK_split (fun h => ?_) (fun h => ?_)
        | with_reducible refine gdK_splitT (fun h => ?_) (fun h => ?_)
        | with_reducible refine gdK_splitF (fun h => ?_) (fun h => ?_)
        | simp only [go_sem, Nat.reduceBEq, Nat.reduceAdd, Nat.reduceMul, Nat.reduceSub, Nat.reduceLeDiff, Nat.reduceLT, Nat.reduceEqDiff, Int.reduceEq, Int.reduceBEq, Int.reduceBNe, Int.reduceLT, Int.reduceLE, *])
      refine hG _ ⟨o.set (i + Y.length) c, ?_, ?_, by simp [hol], okD_set hoo hcB, ?_⟩
      · simp only [go_sem, Nat.reduceBEq, Nat.reduceAdd, Nat.reduceMul, Nat.reduceSub, Nat.reduceLeDiff, Nat.reduceLT, Nat.reduceEqDiff, Int.reduceEq, Int.reduceBEq, Int.reduceBNe, Int.reduceLT, Int.reduceLE, h18]
      · simp only [go_sem, Nat.reduceBEq, Nat.reduceAdd, Nat.reduceMul, Nat.reduceSub, Nat.reduceLeDiff, Nat.reduceLT, Nat.reduceEqDiff, Int.reduceEq, Int.reduceBEq, Int.reduceBNe, Int.reduceLT, Int.reduceLE, h4]
      · rw [ht, hdr, hJ]; simp
  · obtain ⟨cur, h18, h4, hcl, hco, hJ⟩ := hJ
    have c2 := hfr 2 (by kernel_rfl)
    have c3 := hfr 3 (by kernel_rfl)
    have c4 := hfr 4 (by kernel_rfl)
    have c5 := hfr 5 (by kernel_rfl)
    clear hfr
    simp only [go_sem, Nat.reduceBEq, Nat.reduceAdd, Nat.reduceMul, Nat.reduceSub, Nat.reduceLeDiff, Nat.reduceLT, Nat.reduceEqDiff, Int.reduceEq, Int.reduceBEq, Int.reduceBNe, Int.reduceLT, Int.reduceLE] at c2 c3 c4 c5
    change _ = PV.rf (18, 0) L at c5
    change _ = PV.ad (4, 0) 1 0 at c4
    rw [List.drop_length, mulL, List.take_append_drop] at hJ
    rw [hJ] at hres
    have hdep := toTr_ints 5 h18
    change toTr s'.hp dep _ = _ at hdep
    repeat' (first
      | with_reducible refine cdK_splitN (fun h => ?_) (fun h => ?_)
      | with_reducible refine gdK_splitTN (fun h => ?_) (fun h => ?_)
      | with_reducible refine gdK_splitFN (fun h => ?_) (fun h => ?_)
      | with_reducible refine cdK_split (fun h => ?_) (fun h => ?_)
      | with_reducible refine gdK_splitT (fun h => ?_) (fun h => ?_)
      | with_reducible refine gdK_splitF (fun h => ?_) (fun h => ?_)
      | simp only [go_sem, Nat.reduceBEq, Nat.reduceAdd, Nat.reduceMul, Nat.reduceSub, Nat.reduceLeDiff, Nat.reduceLT, Nat.reduceEqDiff, Int.reduceEq, Int.reduceBEq, Int.reduceBNe, Int.reduceLT, Int.reduceLE, *])
    refine clK_fz hres (by simp only [go_sem, Nat.reduceBEq, Nat.reduceAdd, Nat.reduceMul, Nat.reduceSub, Nat.reduceLeDiff, Nat.reduceLT, Nat.reduceEqDiff, Int.reduceEq, Int.reduceBEq, Int.reduceBNe, Int.reduceLT, Int.reduceLE, hdep]) rfl ?_
    have hfz := frz_row (m := L) h18 h4 rfl
    repeat' (first
      | with_reducible refine cdK_splitN (fun h => ?_) (fun h => ?_)
      | with_reducible refine gdK_splitTN (fun h => ?_) (fun h => ?_)
      | with_reducible refine gdK_splitFN (fun h => ?_) (fun h => ?_)
      | with_reducible refine cdK_split (fun h => ?_) (fun h => ?_)
      | with_reducible refine gdK_splitT (fun h => ?_) (fun h => ?_)
      | with_reducible refine gdK_splitF (fun h => ?_) (fun h => ?_)
      | simp only [go_sem, Nat.reduceBEq, Nat.reduceAdd, Nat.reduceMul, Nat.reduceSub, Nat.reduceLeDiff, Nat.reduceLT, Nat.reduceEqDiff, Int.reduceEq, Int.reduceBEq, Int.reduceBNe, Int.reduceLT, Int.reduceLE, *])
theorem mul_d (xn yn : Bool) (x y : Int) (hx : fits x) (hy : fits y) : DCall Try.prog 72 [encI xn x, encI yn y] (encI true (x * y)) := by
  obtain ⟨h1, h2⟩ := mulL_spec (digs_ok x.natAbs) (digs_ok y.natAbs) (okD_zeros ((digs x.natAbs).length + (digs y.natAbs).length)) (by simp) (fun d hd => (List.mem_replicate.1 (List.mem_of_mem_drop hd)).2)
  have ht := trim_d true _ (decide (x < 0) != decide (y < 0)) h2
  rw [h1, val_zeros, val_digs, val_digs, Nat.add_zero] at ht
  have e : (if (decide (x < 0) != decide (y < 0)) = true then -((x.natAbs * y.natAbs : Nat) : Int) else ((x.natAbs * y.natAbs : Nat) : Int)) = x * y := by
    rw [Int.natCast_mul]
    by_cases h1 : x < 0
    · have e1 : ((x.natAbs : Nat) : Int) = -x := by omega
      by_cases h2 : y < 0
      · have e2 : ((y.natAbs : Nat) : Int) = -y := by omega
        simp [h1, h2, e1, e2, Int.neg_mul, Int.mul_neg]
      · have e2 : ((y.natAbs : Nat) : Int) = y := by omega
        simp [h1, h2, e1, e2, Int.neg_mul, Int.mul_neg]
    · have e1 : ((x.natAbs : Nat) : Int) = x := by omega
      by_cases h2 : y < 0
      · have e2 : ((y.natAbs : Nat) : Int) = -y := by omega
        simp [h1, h2, e1, e2, Int.neg_mul, Int.mul_neg]
      · have e2 : ((y.natAbs : Nat) : Int) = y := by omega
        simp [h1, h2, e1, e2, Int.neg_mul, Int.mul_neg]
  rw [e] at ht
  exact mul_raw xn yn _ _ _ _ _ (digs_ok _) (digs_ok _) hx.le hy.le ht
end Ytajgclnahfmfmaa
end Go.Vm
