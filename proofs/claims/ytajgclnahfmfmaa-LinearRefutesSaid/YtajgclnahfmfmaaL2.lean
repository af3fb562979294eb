/- Systems of inequalities: copies, sums. -/
import Derived.Test.YtajgclnahfmfmaaL1
set_option linter.unusedSimpArgs false
set_option maxRecDepth 10000
namespace Go.Vm
open Go Go.Proofs Go.Whole
namespace Ytajgclnahfmfmaa
open Go.Proofs.Try

attribute [go_sem] Try.results103 Try.results69
/-- appending to an own row, exactly -/
theorem append_rf {P : Program} {mu : Nat → Bool} {h : Hp} {d : Option Tmp} {t e : TypeId} {id : Id} {n : Nat} {nn' : Bool} {cs : List PV} {ag : Bool} {xs : List Tr} {esz : Nat} (hel : elemB P t = some e) (hsz : P.cellsOf e = esz) (hz : (zeroB P e).map List.length = some esz) (h1 : Nat.blt 0 esz = true) (hby : Nat.ble (P.bytesOf e) 128 = true)
    (hx : ∀ x ∈ xs, x.cells.length = esz) (hg : hget h id = some ⟨cs, esz, n, e, ag, true⟩) (hb : n + xs.length ≤ 1099511627776) (hne : xs ≠ []) :
    appendPV P mu d t (.rf id n) (.t (.sl nn' xs)) h = some (.rf id (n + xs.length), hset h id ⟨cs ++ (flat xs).map .t, esz, n + xs.length, e, ag, true⟩) := by
  have hpos : 0 < esz := by simp [Nat.blt] at h1; omega
  have hzz : ∃ z, zeroB P e = some z ∧ z.length = esz := by
    cases hzz : zeroB P e with
    | none => rw [hzz] at hz; cases hz
    | some z => rw [hzz] at hz; exact ⟨z, rfl, by simpa using hz⟩
  obtain ⟨z, hz1, hz2⟩ := hzz
  have hfl := flat_length xs esz hx
  have hm := Nat.mul_le_mul hb (Nat.le_of_ble_eq_true hby)
  have hl0 : xs.length ≠ 0 := fun e => hne (List.eq_nil_of_length_eq_zero e)
  unfold appendPV
  simp only [hel, hz1, srcPV, hfl, hsz, if_true, hz2, true_and, hg]
  rw [if_pos hpos, if_pos ⟨by omega, by omega⟩, if_neg hl0]
theorem cloneRows_i (rnn : Bool) (l : List Row) (h : Hp) (hne : l ≠ []) (hlen : l.length ≤ 1000000) :
    ICall Try.prog 103 [.t (.sl true (l.map Row.tr))] h (fun v h' => v = .rf (hnext h 5) l.length ∧ h' = hnew h 5 ⟨(flat (l.map Row.tr)).map .t, 2, l.length, tRow, true, true⟩) := by
  refine icall_mk orders Try.func103 rfl (by kernel_rfl) (fun d => d == 5 || d == 7) (by kernel_rfl) rfl (fun hs hlen => ?_)
  clear hs
  repeat' (first
    | with_reducible refine cdK_splitN (fun h => ?_) (fun h => ?_)
    | with_reducible refine gdK_splitTN (fun h => ?_) (fun h => ?_)
    | with_reducible refine gdK_splitFN (fun h => ?_) (fun h => ?_)
    | with_reducible refine cdK_split (fun h => ?_) (fun h => ?_)
    | with_reducible refine gdK_splitT (fun h => ?_) (fun h => ?_)
    | with_reducible refine gdK_splitF (fun h => ?_) (fun h => ?_)
    | simp only [go_sem, Nat.reduceBEq, Nat.reduceAdd, Nat.reduceMul, Nat.reduceSub, Nat.reduceLeDiff, Nat.reduceLT, Nat.reduceEqDiff, Int.reduceEq, Int.reduceBEq, Int.reduceBNe, Int.reduceLT, Int.reduceLE, *])
  rw [append_rf (esz := 2) (e := tRow) (ag := true) (by kernel_rfl) (by kernel_rfl) (by kernel_rfl) rfl (by kernel_rfl) (fun x hx => (ok_rows l x hx).2.2) (hget_new _ _) (by simp; omega) (by simpa using hne)]
  simp only [Nat.zero_add, List.length_map, List.nil_append, hset_new]
  repeat' (first
    | with_reducible refine cdK_splitN (fun h => ?_) (fun h => ?_)
    | with_reducible refine gdK_splitTN (fun h => ?_) (fun h => ?_)
    | with_reducible refine gdK_splitFN (fun h => ?_) (fun h => ?_)
    | with_reducible refine cdK_split (fun h => ?_) (fun h => ?_)
    | with_reducible refine gdK_splitT (fun h => ?_) (fun h => ?_)
    | with_reducible refine gdK_splitF (fun h => ?_) (fun h => ?_)
    | simp only [go_sem, Nat.reduceBEq, Nat.reduceAdd, Nat.reduceMul, Nat.reduceSub, Nat.reduceLeDiff, Nat.reduceLT, Nat.reduceEqDiff, Int.reduceEq, Int.reduceBEq, Int.reduceBNe, Int.reduceLT, Int.reduceLE, *])
theorem cloneU64_i (mnn : Bool) (l : List Nat) (h : Hp) (hne : l ≠ []) (hlen : l.length ≤ 1000000) :
    ICall Try.prog 69 [.t (.sl true (l.map u64T))] h (fun v h' => v = .rf (hnext h 5) l.length ∧ h' = hnew h 5 ⟨(l.map u64T).map .t, 1, l.length, 64, false, true⟩) := by
  refine icall_mk orders Try.func69 rfl (by kernel_rfl) (fun d => d == 5 || d == 7) (by kernel_rfl) rfl (fun hs hlen => ?_)
  clear hs
  have hfl : flat (l.map u64T) = l.map u64T := flat_one _ (fun x hx => by obtain ⟨y, _, rfl⟩ := List.mem_map.1 hx; rfl)
  repeat' (first
    | with_reducible refine cdK_splitN (fun h => ?_) (fun h => ?_)
    | with_reducible refine gdK_splitTN (fun h => ?_) (fun h => ?_)
    | with_reducible refine gdK_splitFN (fun h => ?_) (fun h => ?_)
    | with_reducible refine cdK_split (fun h => ?_) (fun h => ?_)
    | with_reducible refine gdK_splitT (fun h => ?_) (fun h => ?_)
    | with_reducible refine gdK_splitF (fun h => ?_) (fun h => ?_)
    | simp only [go_sem, Nat.reduceBEq, Nat.reduceAdd, Nat.reduceMul, Nat.reduceSub, Nat.reduceLeDiff, Nat.reduceLT, Nat.reduceEqDiff, Int.reduceEq, Int.reduceBEq, Int.reduceBNe, Int.reduceLT, Int.reduceLE, *])
  rw [append_rf (esz := 1) (e := 64) (ag := false) (by kernel_rfl) (by kernel_rfl) (by kernel_rfl) rfl (by kernel_rfl) (fun x hx => by obtain ⟨y, _, rfl⟩ := List.mem_map.1 hx; rfl) (hget_new _ _) (by simp; omega) (by simpa using hne)]
  simp only [Nat.zero_add, List.length_map, List.nil_append, hset_new, hfl]
  repeat' (first
    | with_reducible refine cdK_splitN (fun h => ?_) (fun h => ?_)
    | with_reducible refine gdK_splitTN (fun h => ?_) (fun h => ?_)
    | with_reducible refine gdK_splitFN (fun h => ?_) (fun h => ?_)
    | with_reducible refine cdK_split (fun h => ?_) (fun h => ?_)
    | with_reducible refine gdK_splitT (fun h => ?_) (fun h => ?_)
    | with_reducible refine gdK_splitF (fun h => ?_) (fun h => ?_)
    | simp only [go_sem, Nat.reduceBEq, Nat.reduceAdd, Nat.reduceMul, Nat.reduceSub, Nat.reduceLeDiff, Nat.reduceLT, Nat.reduceEqDiff, Int.reduceEq, Int.reduceBEq, Int.reduceBNe, Int.reduceLT, Int.reduceLE, *])
theorem append_rf0 {P : Program} {mu : Nat → Bool} {h : Hp} {d : Option Tmp} {t e : TypeId} {id : Id} {n : Nat} {nn' : Bool} {cs : List PV} {ag : Bool} {esz : Nat} (hel : elemB P t = some e) (hsz : P.cellsOf e = esz) (hz : (zeroB P e).map List.length = some esz) (h1 : Nat.blt 0 esz = true) (hby : Nat.ble (P.bytesOf e) 128 = true)
    (hg : hget h id = some ⟨cs, esz, n, e, ag, true⟩) (hb : n ≤ 1099511627776) :
    appendPV P mu d t (.rf id n) (.t (.sl nn' [])) h = some (.rf id n, h) := by
  have hpos : 0 < esz := by simp [Nat.blt] at h1; omega
  have hzz : ∃ z, zeroB P e = some z ∧ z.length = esz := by
    cases hzz : zeroB P e with
    | none => rw [hzz] at hz; cases hz
    | some z => rw [hzz] at hz; exact ⟨z, rfl, by simpa using hz⟩
  obtain ⟨z, hz1, hz2⟩ := hzz
  have hm := Nat.mul_le_mul hb (Nat.le_of_ble_eq_true hby)
  unfold appendPV
  simp only [hel, hz1, srcPV, flat, List.flatMap_nil, List.length_nil, Nat.zero_mul, hsz, if_true, hz2, true_and, hg]
  rw [if_pos hpos, if_pos ⟨by omega, by omega⟩]
theorem cloneRows_i' (l : List Row) (h : Hp) (hlen : l.length ≤ 1000000) :
    ICall Try.prog 103 [.t (.sl true (l.map Row.tr))] h (fun v h' => v = .rf (hnext h 5) l.length ∧ h' = hnew h 5 ⟨(flat (l.map Row.tr)).map .t, 2, l.length, tRow, true, true⟩) := by
  by_cases hne : l = []
  · subst hne
    refine icall_mk orders Try.func103 rfl (by kernel_rfl) (fun d => d == 5 || d == 7) (by kernel_rfl) rfl (fun hs hlen => ?_)
    clear hs
    repeat' (first
      | with_reducible refine cdK_splitN (fun h => ?_) (fun h => ?_)
      | with_reducible refine gdK_splitTN (fun h => ?_) (fun h => ?_)
      | with_reducible refine gdK_splitFN (fun h => ?_) (fun h => ?_)
      | with_reducible refine cdK_split (fun h => ?_) (fun h => ?_)
      | with_reducible refine gdK_splitT (fun h => ?_) (fun h => ?_)
      | with_reducible refine gdK_splitF (fun h => ?_) (fun h => ?_)
      | simp only [go_sem, Nat.reduceBEq, Nat.reduceAdd, Nat.reduceMul, Nat.reduceSub, Nat.reduceLeDiff, Nat.reduceLT, Nat.reduceEqDiff, Int.reduceEq, Int.reduceBEq, Int.reduceBNe, Int.reduceLT, Int.reduceLE, *])
    rw [append_rf0 (esz := 2) (e := tRow) (ag := true) (by kernel_rfl) (by kernel_rfl) (by kernel_rfl) rfl (by kernel_rfl) (hget_new _ _) (by decide)]
    repeat' (first
      | with_reducible refine cdK_splitN (fun h => ?_) (fun h => ?_)
      | with_reducible refine gdK_splitTN (fun h => ?_) (fun h => ?_)
      | with_reducible refine gdK_splitFN (fun h => ?_) (fun h => ?_)
      | with_reducible refine cdK_split (fun h => ?_) (fun h => ?_)
      | with_reducible refine gdK_splitT (fun h => ?_) (fun h => ?_)
      | with_reducible refine gdK_splitF (fun h => ?_) (fun h => ?_)
      | simp only [go_sem, Nat.reduceBEq, Nat.reduceAdd, Nat.reduceMul, Nat.reduceSub, Nat.reduceLeDiff, Nat.reduceLT, Nat.reduceEqDiff, Int.reduceEq, Int.reduceBEq, Int.reduceBNe, Int.reduceLT, Int.reduceLE, *])
    rfl
  · exact cloneRows_i true l h hne hlen
theorem cloneRows_nil (h : Hp) : ICall Try.prog 103 [.t (.sl false [])] h (fun v h' => v = .t (.sl false []) ∧ h' = h) := by
  refine icall_mk orders Try.func103 rfl (by kernel_rfl) (fun d => d == 5 || d == 7) (by kernel_rfl) rfl (fun hs hlen => ?_)
  clear hs
  repeat' (first
    | with_reducible refine cdK_splitN (fun h => ?_) (fun h => ?_)
    | with_reducible refine gdK_splitTN (fun h => ?_) (fun h => ?_)
    | with_reducible refine gdK_splitFN (fun h => ?_) (fun h => ?_)
    | with_reducible refine cdK_split (fun h => ?_) (fun h => ?_)
    | with_reducible refine gdK_splitT (fun h => ?_) (fun h => ?_)
    | with_reducible refine gdK_splitF (fun h => ?_) (fun h => ?_)
    | simp only [go_sem, Nat.reduceBEq, Nat.reduceAdd, Nat.reduceMul, Nat.reduceSub, Nat.reduceLeDiff, Nat.reduceLT, Nat.reduceEqDiff, Int.reduceEq, Int.reduceBEq, Int.reduceBNe, Int.reduceLT, Int.reduceLE, *])
theorem append_nilT {P : Program} {mu : Nat → Bool} {h : Hp} {d : Option Tmp} {t e : TypeId} {nn' : Bool} {xs : List Tr} {esz : Nat} (hel : elemB P t = some e) (hsz : P.cellsOf e = esz) (hz : (zeroB P e).map List.length = some esz) (h1 : Nat.blt 0 esz = true) (hby : Nat.ble (P.bytesOf e) 128 = true)
    (hx : ∀ x ∈ xs, x.cells.length = esz) (hb : xs.length ≤ 1099511627776) (hne : xs ≠ []) :
    appendPV P mu d t (.t (.sl false [])) (.t (.sl nn' xs)) h = newRowPV P mu d e xs.length ((flat xs).map .t) h := by
  have hpos : 0 < esz := by simp [Nat.blt] at h1; omega
  have hzz : ∃ z, zeroB P e = some z ∧ z.length = esz := by
    cases hzz : zeroB P e with
    | none => rw [hzz] at hz; cases hz
    | some z => rw [hzz] at hz; exact ⟨z, rfl, by simpa using hz⟩
  obtain ⟨z, hz1, hz2⟩ := hzz
  have hfl := flat_length xs esz hx
  have hm := Nat.mul_le_mul hb (Nat.le_of_ble_eq_true hby)
  have hl0 : xs.length ≠ 0 := fun e => hne (List.eq_nil_of_length_eq_zero e)
  unfold appendPV
  simp only [hel, hz1, srcPV, hfl, hsz, if_true, hz2, true_and]
  rw [if_pos hpos, if_neg hl0, if_pos ⟨by omega, by omega⟩]
theorem enters' (g : FuncId) (h : (match Try.prog.funcs[g]? with | some fn => !(fn.name == "runtime.NumGoroutine") && !fn.body.isNone | none => false) = true) : Enters Try.prog g := by
  cases hf : Try.prog.funcs[g]? with
  | none => rw [hf] at h; cases h
  | some fn => rw [hf] at h; simp only [Bool.and_eq_true, Bool.not_eq_true'] at h; exact ⟨fn, hf, h.1, h.2⟩
theorem implied_d (vars : Int) (rnn : Bool) (rows : List Row) (row : Row) (hlen : rows.length ≤ 900000) : DCall Try.prog 68 [i64 vars, .sl rnn (rows.map Row.tr), row.tr] (i64 (sysErr vars (rows ++ [row]))) := by
  refine dcall_wf (enters' _ (by kernel_rfl)) fun hw => ?_
  have hnil : rnn = false → rows = [] := fun h => by
    subst h
    simp [wfL, Tr.wf] at hw
    exact hw.1.1
  cases rnn with
  | false =>
    have := hnil rfl
    subst this
    have hc := lcheck_d vars true ([] ++ [row])
    simp only [List.nil_append, List.map_cons, List.map_nil] at hc
    clear hw hnil
    refine dcall_mk orders Try.func68 rfl (by kernel_rfl) (fun d => d == 9 || d == 13) (by kernel_rfl) rfl (fun hs => ?_)
    clear hs
    repeat' (first
      | with_reducible refine cdK_splitN (fun h => ?_) (fun h => ?_)
      | with_reducible refine gdK_splitTN (fun h => ?_) (fun h => ?_)
      | with_reducible refine gdK_splitFN (fun h => ?_) (fun h => ?_)
      | with_reducible refine cdK_split (fun h => ?_) (fun h => ?_)
      | with_reducible refine gdK_splitT (fun h => ?_) (fun h => ?_)
      | with_reducible refine gdK_splitF (fun h => ?_) (fun h => ?_)
      | simp only [go_sem, Nat.reduceBEq, Nat.reduceAdd, Nat.reduceMul, Nat.reduceSub, Nat.reduceLeDiff, Nat.reduceLT, Nat.reduceEqDiff, Int.reduceEq, Int.reduceBEq, Int.reduceBNe, Int.reduceLT, Int.reduceLE, *])
    refine clK_ix (cloneRows_nil _) rfl ?_
    repeat' (first
      | with_reducible refine cdK_splitN (fun h => ?_) (fun h => ?_)
      | with_reducible refine gdK_splitTN (fun h => ?_) (fun h => ?_)
      | with_reducible refine gdK_splitFN (fun h => ?_) (fun h => ?_)
      | with_reducible refine cdK_split (fun h => ?_) (fun h => ?_)
      | with_reducible refine gdK_splitT (fun h => ?_) (fun h => ?_)
      | with_reducible refine gdK_splitF (fun h => ?_) (fun h => ?_)
      | simp only [go_sem, Nat.reduceBEq, Nat.reduceAdd, Nat.reduceMul, Nat.reduceSub, Nat.reduceLeDiff, Nat.reduceLT, Nat.reduceEqDiff, Int.reduceEq, Int.reduceBEq, Int.reduceBNe, Int.reduceLT, Int.reduceLE, *])
    rw [append_nilT (esz := 2) (e := tRow) (by kernel_rfl) (by kernel_rfl) (by kernel_rfl) rfl (by kernel_rfl) (fun x hx => by rw [List.mem_singleton.1 hx]; rfl) (by simp) (by simp)]
    simp only [flat_cons, show flat [] = [] from rfl]
    repeat' (first
      | with_reducible refine cdK_splitN (fun h => ?_) (fun h => ?_)
      | with_reducible refine gdK_splitTN (fun h => ?_) (fun h => ?_)
      | with_reducible refine gdK_splitFN (fun h => ?_) (fun h => ?_)
      | with_reducible refine cdK_split (fun h => ?_) (fun h => ?_)
      | with_reducible refine gdK_splitT (fun h => ?_) (fun h => ?_)
      | with_reducible refine gdK_splitF (fun h => ?_) (fun h => ?_)
      | refine clK_mk (hc) rfl ?_
      | simp only [go_sem, Nat.reduceBEq, Nat.reduceAdd, Nat.reduceMul, Nat.reduceSub, Nat.reduceLeDiff, Nat.reduceLT, Nat.reduceEqDiff, Int.reduceEq, Int.reduceBEq, Int.reduceBNe, Int.reduceLT, Int.reduceLE, *])
  | true =>
    have hc := lcheck_d vars true (rows ++ [row])
    have hi := cloneRows_i' rows (fun _ => []) (by omega)
    clear hw hnil
    refine dcall_mk orders Try.func68 rfl (by kernel_rfl) (fun d => d == 9 || d == 13) (by kernel_rfl) rfl (fun hs => ?_)
    clear hs
    repeat' (first
      | with_reducible refine cdK_splitN (fun h => ?_) (fun h => ?_)
      | with_reducible refine gdK_splitTN (fun h => ?_) (fun h => ?_)
      | with_reducible refine gdK_splitFN (fun h => ?_) (fun h => ?_)
      | with_reducible refine cdK_split (fun h => ?_) (fun h => ?_)
      | with_reducible refine gdK_splitT (fun h => ?_) (fun h => ?_)
      | with_reducible refine gdK_splitF (fun h => ?_) (fun h => ?_)
      | simp only [go_sem, Nat.reduceBEq, Nat.reduceAdd, Nat.reduceMul, Nat.reduceSub, Nat.reduceLeDiff, Nat.reduceLT, Nat.reduceEqDiff, Int.reduceEq, Int.reduceBEq, Int.reduceBNe, Int.reduceLT, Int.reduceLE, *])
    refine clK_ix hi rfl ?_
    repeat' (first
      | with_reducible refine cdK_splitN (fun h => ?_) (fun h => ?_)
      | with_reducible refine gdK_splitTN (fun h => ?_) (fun h => ?_)
      | with_reducible refine gdK_splitFN (fun h => ?_) (fun h => ?_)
      | with_reducible refine cdK_split (fun h => ?_) (fun h => ?_)
      | with_reducible refine gdK_splitT (fun h => ?_) (fun h => ?_)
      | with_reducible refine gdK_splitF (fun h => ?_) (fun h => ?_)
      | simp only [go_sem, Nat.reduceBEq, Nat.reduceAdd, Nat.reduceMul, Nat.reduceSub, Nat.reduceLeDiff, Nat.reduceLT, Nat.reduceEqDiff, Int.reduceEq, Int.reduceBEq, Int.reduceBNe, Int.reduceLT, Int.reduceLE, *])
    rw [append_rf (esz := 2) (e := tRow) (ag := true) (by kernel_rfl) (by kernel_rfl) (by kernel_rfl) rfl (by kernel_rfl) (fun x hx => by rw [List.mem_singleton.1 hx]; rfl) (hget_new _ _) (by simp; omega) (by simp)]
    have hcells : List.map PV.t (flat (List.map Row.tr rows)) ++ List.map PV.t (flat [Tr.agg [.sl row.nn (List.map (Tr.int .i64) row.coefs), .int .i64 row.const]]) = List.map PV.t (flat ((rows ++ [row]).map Row.tr)) := by
      rw [List.map_append, flat_append, List.map_append]; rfl
    rw [hcells, hset_new]
    have hdep : ∀ n, n = (rows ++ [row]).length → toTr (hnew (fun _ => []) 5 ⟨List.map PV.t (flat ((rows ++ [row]).map Row.tr)), 2, n, tRow, true, true⟩) dep (.rf (hnext (fun _ => []) 5) n) = some (.sl true ((rows ++ [row]).map Row.tr)) := fun n hn => toTr_flat 5 (ok_rows _) (by simp [hn]) (hget_new _ _)
    have hdep2 := hdep (rows.length + 1) (by simp)
    simp only [List.length_cons, List.length_nil]
    repeat' (first
      | with_reducible refine cdK_splitN (fun h => ?_) (fun h => ?_)
      | with_reducible refine gdK_splitTN (fun h => ?_) (fun h => ?_)
      | with_reducible refine gdK_splitFN (fun h => ?_) (fun h => ?_)
      | with_reducible refine cdK_split (fun h => ?_) (fun h => ?_)
      | with_reducible refine gdK_splitT (fun h => ?_) (fun h => ?_)
      | with_reducible refine gdK_splitF (fun h => ?_) (fun h => ?_)
      | simp only [go_sem, Nat.reduceBEq, Nat.reduceAdd, Nat.reduceMul, Nat.reduceSub, Nat.reduceLeDiff, Nat.reduceLT, Nat.reduceEqDiff, Int.reduceEq, Int.reduceBEq, Int.reduceBNe, Int.reduceLT, Int.reduceLE, *])
    refine clK_fx hc (by simp only [go_sem, Nat.reduceBEq, Nat.reduceAdd, Nat.reduceMul, Nat.reduceSub, Nat.reduceLeDiff, Nat.reduceLT, Nat.reduceEqDiff, Int.reduceEq, Int.reduceBEq, Int.reduceBNe, Int.reduceLT, Int.reduceLE, hdep2]) rfl ?_
    repeat' (first
      | with_reducible refine cdK_splitN (fun h => ?_) (fun h => ?_)
      | with_reducible refine gdK_splitTN (fun h => ?_) (fun h => ?_)
      | with_reducible refine gdK_splitFN (fun h => ?_) (fun h => ?_)
      | with_reducible refine cdK_split (fun h => ?_) (fun h => ?_)
      | with_reducible refine gdK_splitT (fun h => ?_) (fun h => ?_)
      | with_reducible refine gdK_splitF (fun h => ?_) (fun h => ?_)
      | simp only [go_sem, Nat.reduceBEq, Nat.reduceAdd, Nat.reduceMul, Nat.reduceSub, Nat.reduceLeDiff, Nat.reduceLT, Nat.reduceEqDiff, Int.reduceEq, Int.reduceBEq, Int.reduceBNe, Int.reduceLT, Int.reduceLE, *])
end Ytajgclnahfmfmaa
end Go.Vm
