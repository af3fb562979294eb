/- Systems of inequalities: refutations and certificates, as the program checks them. -/
import Derived.Test.YtajgclnahfmfmaaL3
set_option linter.unusedSimpArgs false
set_option maxRecDepth 10000
namespace Go.Vm
open Go Go.Proofs Go.Whole
namespace Ytajgclnahfmfmaa
open Go.Proofs.Try

theorem sys_of {vars : Int} {rows : List Row} (h : sysErr vars rows = 0) : ∃ V : Nat, vars = V ∧ Sys V rows := by
  unfold sysErr at h
  split at h
  · cases h
  · rename_i h1
    split at h
    · cases h
    · rename_i h2
      split at h
      · rename_i h3
        simp at h1 h2
        refine ⟨vars.toNat, by omega, by omega, by omega, fun r hr => ?_⟩
        have := List.all_eq_true.1 h3 r hr
        simp [rightB, List.all_eq_true] at this
        obtain ⟨e, h4, h5⟩ := this
        exact ⟨by omega, h4, fun c hc => h5 c hc⟩
      · cases h
def okMults (rows : List Row) (ms : List Nat) : Bool := decide (ms.length = rows.length) && ms.all (fun m => decide (m ≤ 4611686018427387904))
theorem okMults_of {rows : List Row} {ms : List Nat} (h : okMults rows ms = true) : ms.length = rows.length ∧ ∀ m ∈ ms, m < 18446744073709551616 := by
  simp [okMults, List.all_eq_true] at h
  exact ⟨h.1, fun m hm => by have := h.2 m hm; omega⟩
def lrefR (vars : Int) (rows : List Row) (ms : List Nat) : Bool × Int :=
  if sysErr vars rows ≠ 0 then (false, sysErr vars rows) else if okMults rows ms = true then (contraW (lsumR (List.replicate vars.toNat zW) ⟨true, 0⟩ rows ms).1 (lsumR (List.replicate vars.toNat zW) ⟨true, 0⟩ rows ms).2, 0) else (false, 2)
theorem lrefutes_d (vars : Int) (rnn : Bool) (rows : List Row) (mnn : Bool) (ms : List Nat) : DCall Try.prog 33 [i64 vars, .sl rnn (rows.map Row.tr), .sl mnn (ms.map u64T)] (.tup [.bool (lrefR vars rows ms).1, i64 (lrefR vars rows ms).2]) := by
  have hck := lcheck_d vars rnn rows
  have hmu := multipliers_d rnn rows mnn ms
  unfold lrefR
  by_cases he : sysErr vars rows = 0
  · obtain ⟨V, rfl, hsy⟩ := sys_of he
    rw [he] at hck
    rw [if_neg (by simp [he]), Int.toNat_natCast]
    clear he
    by_cases hl : ms.length = rows.length
    · have g1 : ((ms.length : Int) != (rows.length : Int)) = false := by simp; omega
      by_cases ha : ms.all (fun m => decide (m ≤ 4611686018427387904)) = true
      · have hok : okMults rows ms = true := by simp only [okMults, decide_eq_true hl, ha, Bool.and_self]
        rw [if_pos ha] at hmu
        rw [if_pos hok]
        have hsm := lsum_d V rnn rows mnn ms hsy.v hsy.n (by omega) (okMults_of hok).2 hsy.r
        have hco := contradicts_d true (lsumR (List.replicate V zW) ⟨true, 0⟩ rows ms).1 (lsumR (List.replicate V zW) ⟨true, 0⟩ rows ms).2
        clear hok ha hl hsy
        generalize lsumR (List.replicate V zW) ⟨true, 0⟩ rows ms = R at *
        refine dcall_mk orders Try.func33 rfl (by kernel_rfl) noMu (by kernel_rfl) rfl (fun hs => ?_)
        repeat' (first
          | with_reducible refine cdK_splitN (fun h => ?_) (fun h => ?_)
          | with_reducible refine gdK_splitTN (fun h => ?_) (fun h => ?_)
          | with_reducible refine gdK_splitFN (fun h => ?_) (fun h => ?_)
          | with_reducible refine cdK_split (fun h => ?_) (fun h => ?_)
          | with_reducible refine gdK_splitT (fun h => ?_) (fun h => ?_)
          | with_reducible refine gdK_splitF (fun h => ?_) (fun h => ?_)
          | refine clK_mk (hck) rfl ?_
          | refine clK_mk (hmu) rfl ?_
          | refine clK_mk (hsm) rfl ?_
          | refine clK_mk (hco) rfl ?_
          | simp only [go_sem, Nat.reduceBEq, Nat.reduceAdd, Nat.reduceMul, Nat.reduceSub, Nat.reduceLeDiff, Nat.reduceLT, Nat.reduceEqDiff, Int.reduceEq, Int.reduceBEq, Int.reduceBNe, Int.reduceLT, Int.reduceLE, *])
      · have hok : okMults rows ms = false := by simp only [okMults, show ms.all (fun m => decide (m ≤ 4611686018427387904)) = false by simpa using ha, Bool.and_false]
        rw [if_neg ha] at hmu
        rw [if_neg (by simp [hok])]
        clear hok ha hl hsy
        refine dcall_mk orders Try.func33 rfl (by kernel_rfl) noMu (by kernel_rfl) rfl (fun hs => ?_)
        repeat' (first
          | with_reducible refine cdK_splitN (fun h => ?_) (fun h => ?_)
          | with_reducible refine gdK_splitTN (fun h => ?_) (fun h => ?_)
          | with_reducible refine gdK_splitFN (fun h => ?_) (fun h => ?_)
          | with_reducible refine cdK_split (fun h => ?_) (fun h => ?_)
          | with_reducible refine gdK_splitT (fun h => ?_) (fun h => ?_)
          | with_reducible refine gdK_splitF (fun h => ?_) (fun h => ?_)
          | refine clK_mk (hck) rfl ?_
          | refine clK_mk (hmu) rfl ?_
          | simp only [go_sem, Nat.reduceBEq, Nat.reduceAdd, Nat.reduceMul, Nat.reduceSub, Nat.reduceLeDiff, Nat.reduceLT, Nat.reduceEqDiff, Int.reduceEq, Int.reduceBEq, Int.reduceBNe, Int.reduceLT, Int.reduceLE, *])
    · have g1 : ((ms.length : Int) != (rows.length : Int)) = true := by simpa using fun h => hl (by omega)
      have hok : okMults rows ms = false := by simp only [okMults, decide_eq_false hl, Bool.false_and]
      rw [if_neg (by simp [hok])]
      clear hok hl hsy
      refine dcall_mk orders Try.func33 rfl (by kernel_rfl) noMu (by kernel_rfl) rfl (fun hs => ?_)
      repeat' (first
        | with_reducible refine cdK_splitN (fun h => ?_) (fun h => ?_)
        | with_reducible refine gdK_splitTN (fun h => ?_) (fun h => ?_)
        | with_reducible refine gdK_splitFN (fun h => ?_) (fun h => ?_)
        | with_reducible refine cdK_split (fun h => ?_) (fun h => ?_)
        | with_reducible refine gdK_splitT (fun h => ?_) (fun h => ?_)
        | with_reducible refine gdK_splitF (fun h => ?_) (fun h => ?_)
        | refine clK_mk (hck) rfl ?_
        | simp only [go_sem, Nat.reduceBEq, Nat.reduceAdd, Nat.reduceMul, Nat.reduceSub, Nat.reduceLeDiff, Nat.reduceLT, Nat.reduceEqDiff, Int.reduceEq, Int.reduceBEq, Int.reduceBNe, Int.reduceLT, Int.reduceLE, *])
  · rw [if_pos he]
    have g : (sysErr vars rows != 0) = true := by simpa using he
    generalize sysErr vars rows = e at *
    clear he
    refine dcall_mk orders Try.func33 rfl (by kernel_rfl) noMu (by kernel_rfl) rfl (fun hs => ?_)
    repeat' (first
      | with_reducible refine cdK_splitN (fun h => ?_) (fun h => ?_)
      | with_reducible refine gdK_splitTN (fun h => ?_) (fun h => ?_)
      | with_reducible refine gdK_splitFN (fun h => ?_) (fun h => ?_)
      | with_reducible refine cdK_split (fun h => ?_) (fun h => ?_)
      | with_reducible refine gdK_splitT (fun h => ?_) (fun h => ?_)
      | with_reducible refine gdK_splitF (fun h => ?_) (fun h => ?_)
      | refine clK_mk (hck) rfl ?_
      | simp only [go_sem, Nat.reduceBEq, Nat.reduceAdd, Nat.reduceMul, Nat.reduceSub, Nat.reduceLeDiff, Nat.reduceLT, Nat.reduceEqDiff, Int.reduceEq, Int.reduceBEq, Int.reduceBNe, Int.reduceLT, Int.reduceLE, *])

/-! certificates -/
theorem cloneU64_i' (l : List Nat) (h : Hp) (hlen : l.length ≤ 1000000) :
    ICall Try.prog 69 [.t (.sl true (l.map u64T))] h (fun v h' => v = .rf (hnext h 5) l.length ∧ h' = hnew h 5 ⟨(l.map u64T).map .t, 1, l.length, 64, false, true⟩) := by
  by_cases hne : l = []
  · subst hne
    refine icall_mk orders Try.func69 rfl (by kernel_rfl) (fun d => d == 5 || d == 7) (by kernel_rfl) rfl (fun hs hlen => ?_)
    clear hs
    repeat' (first
      | with_reducible refine cdK_splitN (fun h => ?_) (fun h => ?_)
      | with_reducible refine gdK_splitTN (fun h => ?_) (fun h => ?_)
      | with_reducible refine gdK_splitFN (fun h => ?_) (fun h => ?_)
      | with_reducible refine cdK_split (fun h => ?_) (fun h => ?_)
      | with_reducible refine gdK_splitT (fun h => ?_) (fun h => ?_)
      | with_reducible refine gdK_splitF (fun h => ?_) (fun h => ?_)
      | simp only [go_sem, Nat.reduceBEq, Nat.reduceAdd, Nat.reduceMul, Nat.reduceSub, Nat.reduceLeDiff, Nat.reduceLT, Nat.reduceEqDiff, Int.reduceEq, Int.reduceBEq, Int.reduceBNe, Int.reduceLT, Int.reduceLE, *])
    rw [append_rf0 (esz := 1) (e := 64) (ag := false) (by kernel_rfl) (by kernel_rfl) (by kernel_rfl) rfl (by kernel_rfl) (hget_new _ _) (by decide)]
    repeat' (first
      | with_reducible refine cdK_splitN (fun h => ?_) (fun h => ?_)
      | with_reducible refine gdK_splitTN (fun h => ?_) (fun h => ?_)
      | with_reducible refine gdK_splitFN (fun h => ?_) (fun h => ?_)
      | with_reducible refine cdK_split (fun h => ?_) (fun h => ?_)
      | with_reducible refine gdK_splitT (fun h => ?_) (fun h => ?_)
      | with_reducible refine gdK_splitF (fun h => ?_) (fun h => ?_)
      | simp only [go_sem, Nat.reduceBEq, Nat.reduceAdd, Nat.reduceMul, Nat.reduceSub, Nat.reduceLeDiff, Nat.reduceLT, Nat.reduceEqDiff, Int.reduceEq, Int.reduceBEq, Int.reduceBNe, Int.reduceLT, Int.reduceLE, *])
    all_goals rfl
  · exact cloneU64_i true l h hne hlen
theorem cloneU64_nil (h : Hp) : ICall Try.prog 69 [.t (.sl false [])] h (fun v h' => v = .t (.sl false []) ∧ h' = h) := by
  refine icall_mk orders Try.func69 rfl (by kernel_rfl) (fun d => d == 5 || d == 7) (by kernel_rfl) rfl (fun hs hlen => ?_)
  clear hs
  repeat' (first
    | with_reducible refine cdK_splitN (fun h => ?_) (fun h => ?_)
    | with_reducible refine gdK_splitTN (fun h => ?_) (fun h => ?_)
    | with_reducible refine gdK_splitFN (fun h => ?_) (fun h => ?_)
    | with_reducible refine cdK_split (fun h => ?_) (fun h => ?_)
    | with_reducible refine gdK_splitT (fun h => ?_) (fun h => ?_)
    | with_reducible refine gdK_splitF (fun h => ?_) (fun h => ?_)
    | simp only [go_sem, Nat.reduceBEq, Nat.reduceAdd, Nat.reduceMul, Nat.reduceSub, Nat.reduceLeDiff, Nat.reduceLT, Nat.reduceEqDiff, Int.reduceEq, Int.reduceBEq, Int.reduceBNe, Int.reduceLT, Int.reduceLE, *])
/-- do the coefficients agree? -/
def eqW : List WI → List Int → Nat → Bool
  | x :: out, a :: l, b => decide (x.z = b * a) && eqW out l b
  | _, _, _ => true
def lprovW (q : List WI × WI) (row : Row) (sc : Nat) : Bool := if sc = 0 then contraW q.1 q.2 else eqW q.1 row.coefs sc && decide (q.2.z ≤ sc * row.const)
def okCert (rows : List Row) (f : Cert) : Bool := okMults rows f.ms && decide (f.scale ≤ 4611686018427387904)
def lprovR (vars : Int) (rows : List Row) (row : Row) (f : Cert) : Bool × Int :=
  if sysErr vars (rows ++ [row]) ≠ 0 then (false, sysErr vars (rows ++ [row])) else if okCert rows f = true then (lprovW (lsumR (List.replicate vars.toNat zW) ⟨true, 0⟩ rows f.ms) row f.scale, 0) else (false, 2)
theorem Sys.left {V : Nat} {rows : List Row} {row : Row} (h : Sys V (rows ++ [row])) : Sys V rows ∧ row.coefs.length = V ∧ smallB row.const = true ∧ ∀ c ∈ row.coefs, smallB c = true :=
  ⟨⟨h.v, by have := h.n; simp at this; omega, fun r hr => h.r r (by simp [hr])⟩, h.r row (by simp)⟩
end Ytajgclnahfmfmaa
end Go.Vm
