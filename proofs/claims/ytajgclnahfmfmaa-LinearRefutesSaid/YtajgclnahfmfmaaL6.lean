/- The laws of layer 25 on checks and refutations: the reference's sums and the program's have the same values. -/
import Derived.Test.YtajgclnahfmfmaaL5
import Derived.Test.YtajgclnahfmfmaaX1
set_option linter.unusedSimpArgs false
set_option maxRecDepth 10000
namespace Go.Vm
open Go Go.Proofs Go.Whole
namespace Ytajgclnahfmfmaa
open Go.Proofs.Try

attribute [go_sem] Try.results9 Try.results10 Try.results11 Try.results37

def RInt.v (x : RInt) : Int := (x.p : Int) - x.n
theorem addRow_v : ∀ (out : List RInt) (cs : List Int) (m : Nat), (addRow out cs m).map RInt.v = List.zipWith (fun (v c : Int) => v + m * c) (out.map RInt.v) cs
  | [], _, _ => by simp [addRow]
  | x :: out, [], _ => by simp [addRow]
  | x :: out, c :: cs, m => by
    have ih := addRow_v out cs m
    simp only [addRow] at ih
    simp only [addRow, List.zipWith_cons_cons, List.map_cons, ih]
    congr 1
    have := withR_v x c m
    simp only [RInt.v]
    rw [this, Int.mul_comm]
theorem addW_v : ∀ (out : List WI) (cs : List Int) (m : Nat), (addW out cs m).map WI.z = List.zipWith (fun (v c : Int) => v + m * c) (out.map WI.z) cs
  | [], _, _ => by simp [addW]
  | x :: out, [], _ => by simp [addW]
  | x :: out, c :: cs, m => by
    have ih := addW_v out cs m
    simp only [addW] at ih
    simp only [addW, List.zipWith_cons_cons, List.map_cons, ih]
theorem zipWith_zero : ∀ (l cs : List Int), l.length ≤ cs.length → List.zipWith (fun (v c : Int) => v + ((0 : Nat) : Int) * c) l cs = l
  | [], _, _ => by simp
  | x :: l, [], h => by simp at h
  | x :: l, c :: cs, h => by
    simp only [List.length_cons, Nat.add_le_add_iff_right] at h
    rw [List.zipWith_cons_cons, zipWith_zero l cs h]
    simp
/-- THE TWO SUMS HAVE THE SAME VALUES. -/
theorem sums_same (V : Nat) : ∀ (rows : List Row) (ms : List Nat) (out : List RInt) (last : RInt) (outW : List WI) (lastW : WI), out.length = V → (∀ r ∈ rows, r.coefs.length = V) → out.map RInt.v = outW.map WI.z → last.v = lastW.z →
    (sumR out last rows ms).1.map RInt.v = (lsumR outW lastW rows ms).1.map WI.z ∧ (sumR out last rows ms).2.v = (lsumR outW lastW rows ms).2.z
  | [], ms, out, last, outW, lastW, _, _, h1, h2 => by simp [sumR, lsumR, h1, h2]
  | r :: rows, [], out, last, outW, lastW, _, _, h1, h2 => by simp [sumR, lsumR, h1, h2]
  | r :: rows, m :: ms, out, last, outW, lastW, hl, hr, h1, h2 => by
    have hrl := hr r (by simp)
    have hlast : (withR last r.const m).v = last.v + m * r.const := by
      have := withR_v last r.const m
      simp only [RInt.v]
      rw [this, Int.mul_comm]
    simp only [sumR, lsumR]
    have hl' : (addRow out r.coefs m).length = V := by simp [addRow, hl, hrl]
    by_cases hm : m = 0
    · rw [if_pos hm]
      subst hm
      refine sums_same V rows ms _ _ outW lastW hl' (fun x hx => hr x (by simp [hx])) ?_ ?_
      · rw [addRow_v, zipWith_zero _ _ (by simp [hl, hrl]), h1]
      · rw [hlast, ← h2]; simp
    · rw [if_neg hm]
      refine sums_same V rows ms _ _ _ _ hl' (fun x hx => hr x (by simp [hx])) ?_ ?_
      · rw [addRow_v, addW_v, h1]
      · rw [hlast, h2]
theorem all_v (l : List RInt) : l.all (fun x => decide (x.p = x.n)) = (l.map RInt.v).all (fun z => decide (z = 0)) := by
  rw [List.all_map]
  congr 1
  funext x
  simp only [Function.comp, RInt.v]
  exact decide_eq_decide.2 (by omega)
theorem all_z (l : List WI) : l.all (fun x => decide (x.z = 0)) = (l.map WI.z).all (fun z => decide (z = 0)) := by
  rw [List.all_map]; rfl
theorem contra_same {q : List RInt × RInt} {w : List WI × WI} (h1 : q.1.map RInt.v = w.1.map WI.z) (h2 : q.2.v = w.2.z) : refutesR q = contraW w.1 w.2 := by
  unfold refutesR contraW
  rw [all_v, all_z, h1, Bool.and_comm]
  congr 1
  refine decide_eq_decide.2 ?_
  rw [← h2]
  simp only [RInt.v]; omega
theorem most_v (x y : RInt) : mostR x y = decide (x.v ≤ y.v) := by
  simp only [mostR, RInt.v, ← decide_not]
  exact decide_eq_decide.2 (by omega)
theorem zR_withR (a : Int) (b : Nat) : (withR zR a b).v = b * a := by
  have := withR_v zR a b
  simp only [RInt.v]
  rw [this, Int.mul_comm]; simp
theorem eq_same : ∀ (out : List RInt) (outW : List WI) (l : List Int) (b : Nat), out.map RInt.v = outW.map WI.z → eqGo out l b = eqW outW l b
  | [], [], _, _, _ => by simp [eqGo, eqW]
  | [], w :: outW, _, _, h => by simp at h
  | x :: out, [], _, _, h => by simp at h
  | x :: out, w :: outW, [], _, _ => by simp [eqGo, eqW]
  | x :: out, w :: outW, a :: l, b, h => by
    simp only [List.map_cons, List.cons.injEq] at h
    simp only [eqGo, eqW, eq_same out outW l b h.2, most_v, zR_withR, h.1]
    congr 1
    rw [← Bool.decide_and]
    exact decide_eq_decide.2 (by omega)
theorem proves_same {q : List RInt × RInt} {w : List WI × WI} (row : Row) (sc : Nat) (h1 : q.1.map RInt.v = w.1.map WI.z) (h2 : q.2.v = w.2.z) : provesR q row sc = lprovW w row sc := by
  unfold provesR lprovW
  split
  · exact contra_same h1 h2
  · rw [eq_same _ _ _ _ h1, most_v, zR_withR, h2]
theorem sums_start (V : Nat) (rows : List Row) (ms : List Nat) (hr : ∀ r ∈ rows, r.coefs.length = V) :
    (sumR (List.replicate V zR) zR rows ms).1.map RInt.v = (lsumR (List.replicate V zW) ⟨true, 0⟩ rows ms).1.map WI.z ∧ (sumR (List.replicate V zR) zR rows ms).2.v = (lsumR (List.replicate V zW) ⟨true, 0⟩ rows ms).2.z :=
  sums_same V rows ms _ _ _ _ (by simp) hr (by rw [List.map_replicate, List.map_replicate]; rfl) rfl

theorem LinearChecks_d (vars : Int) (rnn : Bool) (rows : List Row) : DCall Try.prog 9 [i64 vars, .sl rnn (rows.map Row.tr)] (.bool true) := by
  have h1 := lcheck_d vars rnn rows
  have h2 := refSys_d vars rnn rows
  have h3 := alive25_d
  generalize sysErr vars rows = e at *
  refine dcall_mk orders Try.func9 rfl (by kernel_rfl) noMu (by kernel_rfl) rfl (fun hs => ?_)
  clear hs
  repeat' (first
    | with_reducible refine cdK_splitN (fun h => ?_) (fun h => ?_)
    | with_reducible refine gdK_splitTN (fun h => ?_) (fun h => ?_)
    | with_reducible refine gdK_splitFN (fun h => ?_) (fun h => ?_)
    | with_reducible refine cdK_split (fun h => ?_) (fun h => ?_)
    | with_reducible refine gdK_splitT (fun h => ?_) (fun h => ?_)
    | with_reducible refine gdK_splitF (fun h => ?_) (fun h => ?_)
    | refine clK_mk (h1) rfl ?_
    | refine clK_mk (h2) rfl ?_
    | refine clK_mk (h3) rfl ?_
    | simp only [go_sem, Nat.reduceBEq, Nat.reduceAdd, Nat.reduceMul, Nat.reduceSub, Nat.reduceLeDiff, Nat.reduceLT, Nat.reduceEqDiff, Int.reduceEq, Int.reduceBEq, Int.reduceBNe, Int.reduceLT, Int.reduceLE, *, beq_self_eq_true])
theorem LinearRefutes_d (vars : Int) (rnn : Bool) (rows : List Row) (mnn : Bool) (ms : List Nat) (hms : ∀ m ∈ ms, m < 18446744073709551616) : DCall Try.prog 10 [i64 vars, .sl rnn (rows.map Row.tr), .sl mnn (ms.map u64T)] (.bool true) := by
  have h1 := lrefutes_d vars rnn rows mnn ms
  have h2 := refSys_d vars rnn rows
  have h3 := alive25_d
  have h4 := mults_d rnn rows mnn ms
  rw [show (decide (ms.length = rows.length) && ms.all (fun m => decide (m ≤ 4611686018427387904))) = okMults rows ms from rfl] at h4
  unfold lrefR at h1
  by_cases he : sysErr vars rows = 0
  · obtain ⟨V, rfl, hS⟩ := sys_of he
    rw [if_neg (fun h => h he)] at h1
    rw [he] at h2
    by_cases hm : okMults rows ms = true
    · have hm2 := okMults_of hm
      have h5 := refRefutes_d V rnn rows mnn ms hS (by omega) hms
      obtain ⟨k1, k2⟩ := sums_start V rows ms (fun r hr => (hS.r r hr).1)
      rw [contra_same k1 k2] at h5
      rw [if_pos hm] at h1
      simp only [Int.toNat_natCast] at h1
      rw [hm] at h4
      generalize contraW _ _ = b at *
      clear k1 k2 hm2 hS he hms
      refine dcall_mk orders Try.func10 rfl (by kernel_rfl) noMu (by kernel_rfl) rfl (fun hs => ?_)
      clear hs
      repeat' (first
        | with_reducible refine cdK_splitN (fun h => ?_) (fun h => ?_)
        | with_reducible refine gdK_splitTN (fun h => ?_) (fun h => ?_)
        | with_reducible refine gdK_splitFN (fun h => ?_) (fun h => ?_)
        | with_reducible refine cdK_split (fun h => ?_) (fun h => ?_)
        | with_reducible refine gdK_splitT (fun h => ?_) (fun h => ?_)
        | with_reducible refine gdK_splitF (fun h => ?_) (fun h => ?_)
        | refine clK_mk (h1) rfl ?_
        | refine clK_mk (h2) rfl ?_
        | refine clK_mk (h4) rfl ?_
        | refine clK_mk (h5) rfl ?_
        | simp only [go_sem, Nat.reduceBEq, Nat.reduceAdd, Nat.reduceMul, Nat.reduceSub, Nat.reduceLeDiff, Nat.reduceLT, Nat.reduceEqDiff, Int.reduceEq, Int.reduceBEq, Int.reduceBNe, Int.reduceLT, Int.reduceLE, *, beq_self_eq_true])
    · rw [if_neg hm] at h1
      have hm : okMults rows ms = false := by simpa using hm
      rw [hm] at h4
      clear hS he hms
      refine dcall_mk orders Try.func10 rfl (by kernel_rfl) noMu (by kernel_rfl) rfl (fun hs => ?_)
      clear hs
      repeat' (first
        | with_reducible refine cdK_splitN (fun h => ?_) (fun h => ?_)
        | with_reducible refine gdK_splitTN (fun h => ?_) (fun h => ?_)
        | with_reducible refine gdK_splitFN (fun h => ?_) (fun h => ?_)
        | with_reducible refine cdK_split (fun h => ?_) (fun h => ?_)
        | with_reducible refine gdK_splitT (fun h => ?_) (fun h => ?_)
        | with_reducible refine gdK_splitF (fun h => ?_) (fun h => ?_)
        | refine clK_mk (h1) rfl ?_
        | refine clK_mk (h2) rfl ?_
        | refine clK_mk (h4) rfl ?_
        | refine clK_mk (h3) rfl ?_
        | simp only [go_sem, Nat.reduceBEq, Nat.reduceAdd, Nat.reduceMul, Nat.reduceSub, Nat.reduceLeDiff, Nat.reduceLT, Nat.reduceEqDiff, Int.reduceEq, Int.reduceBEq, Int.reduceBNe, Int.reduceLT, Int.reduceLE, *, beq_self_eq_true])
  · rw [if_pos he] at h1
    simp only at h1
    have hb : (sysErr vars rows == 0) = false := by simpa using he
    have hb2 : (sysErr vars rows != 0) = true := by simpa using he
    generalize sysErr vars rows = e at *
    clear hms
    refine dcall_mk orders Try.func10 rfl (by kernel_rfl) noMu (by kernel_rfl) rfl (fun hs => ?_)
    clear hs
    repeat' (first
      | with_reducible refine cdK_splitN (fun h => ?_) (fun h => ?_)
      | with_reducible refine gdK_splitTN (fun h => ?_) (fun h => ?_)
      | with_reducible refine gdK_splitFN (fun h => ?_) (fun h => ?_)
      | with_reducible refine cdK_split (fun h => ?_) (fun h => ?_)
      | with_reducible refine gdK_splitT (fun h => ?_) (fun h => ?_)
      | with_reducible refine gdK_splitF (fun h => ?_) (fun h => ?_)
      | refine clK_mk (h1) rfl ?_
      | refine clK_mk (h2) rfl ?_
      | refine clK_mk (h4) rfl ?_
      | refine clK_mk (h3) rfl ?_
      | simp only [go_sem, Nat.reduceBEq, Nat.reduceAdd, Nat.reduceMul, Nat.reduceSub, Nat.reduceLeDiff, Nat.reduceLT, Nat.reduceEqDiff, Int.reduceEq, Int.reduceBEq, Int.reduceBNe, Int.reduceLT, Int.reduceLE, *, beq_self_eq_true])
end Ytajgclnahfmfmaa
end Go.Vm
