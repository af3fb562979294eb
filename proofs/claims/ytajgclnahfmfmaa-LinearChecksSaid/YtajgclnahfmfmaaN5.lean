/- The reference's checks of systems, refutations and certificates. -/
import Derived.Test.YtajgclnahfmfmaaN4
set_option linter.unusedSimpArgs false
set_option maxRecDepth 10000
namespace Go.Vm
open Go Go.Proofs Go.Whole
namespace Ytajgclnahfmfmaa
open Go.Proofs.Try

/-- the error of a system -/
def sysErr (vars : Int) (rows : List Row) : Int := if decide (vars < 0) || decide (vars > 128) then 2 else if decide ((rows.length : Int) > 256) then 3 else if rows.all (rightB vars) then 0 else 2
theorem refSys_d (vars : Int) (rnn : Bool) (rows : List Row) : DCall Try.prog 31 [i64 vars, .sl rnn (rows.map Row.tr)] (i64 (sysErr vars rows)) := by
  refine dcall_mk orders Try.func31 rfl (by kernel_rfl) (fun d => d == 6) (by kernel_rfl) rfl (fun hs => ?_)
  simp [sizedL, Tr.sized] at hs
  obtain ⟨hs1, _⟩ := hs
  repeat' (first
    | with_reducible refine cdK_splitN (fun h => ?_) (fun h => ?_)
    | with_reducible refine gdK_splitTN (fun h => ?_) (fun h => ?_)
    | with_reducible refine gdK_splitFN (fun h => ?_) (fun h => ?_)
    | with_reducible refine cdK_split (fun h => ?_) (fun h => ?_)
    | with_reducible refine gdK_splitT (fun h => ?_) (fun h => ?_)
    | with_reducible refine gdK_splitF (fun h => ?_) (fun h => ?_)
    | simp only [go_sem, Nat.reduceBEq, Nat.reduceAdd, Nat.reduceMul, Nat.reduceSub, Nat.reduceLeDiff, Nat.reduceLT, Nat.reduceEqDiff, Int.reduceEq, Int.reduceBEq, Int.reduceBNe, Int.reduceLT, Int.reduceLE, *])
  try any_goals (refine congrArg some ?_; first | rfl | (simp only [go_sem, Nat.reduceBEq, Nat.reduceAdd, Nat.reduceMul, Nat.reduceSub, Nat.reduceLeDiff, Nat.reduceLT, Nat.reduceEqDiff, Int.reduceEq, Int.reduceBEq, Int.reduceBNe, Int.reduceLT, Int.reduceLE, sysErr, *]; done) | (simp only [go_sem, Nat.reduceBEq, Nat.reduceAdd, Nat.reduceMul, Nat.reduceSub, Nat.reduceLeDiff, Nat.reduceLT, Nat.reduceEqDiff, Int.reduceEq, Int.reduceBEq, Int.reduceBNe, Int.reduceLT, Int.reduceLE, sysErr, *]; rfl) | (simp_all [sysErr]; done))
  refine loop_range rows (fun k s' => rows.all (rightB vars) = (rows.drop k).all (rightB vars)) rfl rfl (by first | assumption | omega) (by kernel_rfl) (fun _ _ _ _ hj => hj) (fun _ _ _ hj => hj) ?_ (fun k x s' hx hd hk hJ hix hfr G hG => ?_) (fun s' hJ hfr => ?_)
  · rfl
  · have c0 := hfr 0 (by kernel_rfl)
    have c16 := hfr 16 (by kernel_rfl)
    clear hfr
    simp only [go_sem, Nat.reduceBEq, Nat.reduceAdd, Nat.reduceMul, Nat.reduceSub, Nat.reduceLeDiff, Nat.reduceLT, Nat.reduceEqDiff, Int.reduceEq, Int.reduceBEq, Int.reduceBNe, Int.reduceLT, Int.reduceLE] at c0 c16
    rw [hd, List.all_cons] at hJ
    repeat' (first
      | with_reducible refine cdK_splitN (fun h => ?_) (fun h => ?_)
      | with_reducible refine gdK_splitTN (fun h => ?_) (fun h => ?_)
      | with_reducible refine gdK_splitFN (fun h => ?_) (fun h => ?_)
      | with_reducible refine cdK_split (fun h => ?_) (fun h => ?_)
      | with_reducible refine gdK_splitT (fun h => ?_) (fun h => ?_)
      | with_reducible refine gdK_splitF (fun h => ?_) (fun h => ?_)
      | refine clK_mk (right_d vars x) rfl ?_
      | simp only [go_sem, Nat.reduceBEq, Nat.reduceAdd, Nat.reduceMul, Nat.reduceSub, Nat.reduceLeDiff, Nat.reduceLT, Nat.reduceEqDiff, Int.reduceEq, Int.reduceBEq, Int.reduceBNe, Int.reduceLT, Int.reduceLE, *])
    try any_goals (refine congrArg some ?_; first | rfl | (simp only [go_sem, Nat.reduceBEq, Nat.reduceAdd, Nat.reduceMul, Nat.reduceSub, Nat.reduceLeDiff, Nat.reduceLT, Nat.reduceEqDiff, Int.reduceEq, Int.reduceBEq, Int.reduceBNe, Int.reduceLT, Int.reduceLE, sysErr, *]; done) | (simp only [go_sem, Nat.reduceBEq, Nat.reduceAdd, Nat.reduceMul, Nat.reduceSub, Nat.reduceLeDiff, Nat.reduceLT, Nat.reduceEqDiff, Int.reduceEq, Int.reduceBEq, Int.reduceBNe, Int.reduceLT, Int.reduceLE, sysErr, *]; rfl) | (simp_all [sysErr]; done))
    try any_goals (refine hG _ ?_; simp only [go_sem, Nat.reduceBEq, Nat.reduceAdd, Nat.reduceMul, Nat.reduceSub, Nat.reduceLeDiff, Nat.reduceLT, Nat.reduceEqDiff, Int.reduceEq, Int.reduceBEq, Int.reduceBNe, Int.reduceLT, Int.reduceLE, sysErr, *]; done)
  · simp only [List.drop_length, List.all_nil] at hJ
    repeat' (first
      | with_reducible refine cdK_splitN (fun h => ?_) (fun h => ?_)
      | with_reducible refine gdK_splitTN (fun h => ?_) (fun h => ?_)
      | with_reducible refine gdK_splitFN (fun h => ?_) (fun h => ?_)
      | with_reducible refine cdK_split (fun h => ?_) (fun h => ?_)
      | with_reducible refine gdK_splitT (fun h => ?_) (fun h => ?_)
      | with_reducible refine gdK_splitF (fun h => ?_) (fun h => ?_)
      | simp only [go_sem, Nat.reduceBEq, Nat.reduceAdd, Nat.reduceMul, Nat.reduceSub, Nat.reduceLeDiff, Nat.reduceLT, Nat.reduceEqDiff, Int.reduceEq, Int.reduceBEq, Int.reduceBNe, Int.reduceLT, Int.reduceLE, *])
    try any_goals (refine congrArg some ?_; first | rfl | (simp only [go_sem, Nat.reduceBEq, Nat.reduceAdd, Nat.reduceMul, Nat.reduceSub, Nat.reduceLeDiff, Nat.reduceLT, Nat.reduceEqDiff, Int.reduceEq, Int.reduceBEq, Int.reduceBNe, Int.reduceLT, Int.reduceLE, sysErr, *]; done) | (simp only [go_sem, Nat.reduceBEq, Nat.reduceAdd, Nat.reduceMul, Nat.reduceSub, Nat.reduceLeDiff, Nat.reduceLT, Nat.reduceEqDiff, Int.reduceEq, Int.reduceBEq, Int.reduceBNe, Int.reduceLT, Int.reduceLE, sysErr, *]; rfl) | (simp_all [sysErr]; done))

/-- does a sum refute? -/
def refutesR (q : List RInt × RInt) : Bool := q.1.all (fun x => decide (x.p = x.n)) && decide (q.2.p < q.2.n)
theorem sumR_le : ∀ (rows : List Row) (ms : List Nat) (out : List RInt) (last : RInt) (k : Nat), (∀ m ∈ ms, m < 18446744073709551616) → (∀ r ∈ rows, smallB r.const = true ∧ ∀ c ∈ r.coefs, smallB c = true) → (∀ x ∈ out, x.le k) → last.le k →
    (∀ x ∈ (sumR out last rows ms).1, x.le (k + rows.length)) ∧ (sumR out last rows ms).2.le (k + rows.length)
  | [], ms, out, last, k, _, _, h1, h2 => by cases ms <;> exact ⟨h1, h2⟩
  | r :: rows, [], out, last, k, _, _, h1, h2 => by
    refine ⟨fun x hx => ?_, ?_⟩
    · have := h1 x hx; unfold RInt.le at *; simp only [List.length_cons]; constructor <;> refine Nat.le_trans (by first | exact this.1 | exact this.2) (Nat.mul_le_mul_right _ (by omega))
    · unfold RInt.le at *; simp only [List.length_cons]; constructor <;> refine Nat.le_trans (by first | exact h2.1 | exact h2.2) (Nat.mul_le_mul_right _ (by omega))
  | r :: rows, m :: ms, out, last, k, hm, hr, h1, h2 => by
    have hr0 := hr r (by simp)
    have hm0 := hm m (by simp)
    have := sumR_le rows ms (addRow out r.coefs m) (withR last r.const m) (k + 1) (fun x hx => hm x (by simp [hx])) (fun x hx => hr x (by simp [hx])) (fun z hz => by
      unfold addRow at hz
      rw [List.mem_iff_getElem?] at hz
      obtain ⟨j, hj⟩ := hz
      rw [List.getElem?_zipWith] at hj
      cases ho : out[j]? with
      | none => simp [ho] at hj
      | some a =>
        cases hc : r.coefs[j]? with
        | none => simp [ho, hc] at hj
        | some c =>
          simp [ho, hc] at hj
          rw [← hj]
          exact withR_le (h1 a (List.mem_of_getElem? ho)) (smallB_abs (hr0.2 c (List.mem_of_getElem? hc))) hm0) (withR_le h2 (smallB_abs hr0.1) hm0)
    simp only [sumR, List.length_cons]
    rw [show k + (rows.length + 1) = k + 1 + rows.length by omega]
    exact this
theorem sumR_len {V : Nat} : ∀ (rows : List Row) (ms : List Nat) (out : List RInt) (last : RInt), out.length = V → (∀ r ∈ rows, r.coefs.length = V) → (sumR out last rows ms).1.length = V
  | [], ms, out, last, h, _ => by cases ms <;> exact h
  | r :: rows, [], out, last, h, _ => h
  | r :: rows, m :: ms, out, last, h, hr => by
    simp only [sumR]
    exact sumR_len rows ms _ _ (by unfold addRow; rw [List.length_zipWith, h, hr r (by simp), Nat.min_self]) (fun x hx => hr x (by simp [hx]))
structure Sys (V : Nat) (rows : List Row) : Prop where
  v : V ≤ 128
  n : rows.length ≤ 256
  r : ∀ r ∈ rows, r.coefs.length = V ∧ smallB r.const = true ∧ ∀ c ∈ r.coefs, smallB c = true
theorem RInt.le.ok' {x : RInt} {k : Nat} (h : x.le k) (hk : k ≤ 100000) : x.ok := ⟨Nat.le_trans (h.ok hk).1 (by decide), Nat.le_trans (h.ok hk).2 (by decide)⟩
theorem refRefutes_d (V : Nat) (rnn : Bool) (rows : List Row) (mnn : Bool) (ms : List Nat) (hs0 : Sys V rows) (hml : rows.length ≤ ms.length) (hms : ∀ m ∈ ms, m < 18446744073709551616) :
    DCall Try.prog 35 [i64 V, .sl rnn (rows.map Row.tr), .sl mnn (ms.map u64T)] (.bool (refutesR (sumR (List.replicate V zR) zR rows ms))) := by
  have hsum := sum_d V rnn rows mnn ms hs0.v hs0.n hml hms hs0.r
  obtain ⟨hle1, hle2⟩ := sumR_le rows ms (List.replicate V zR) zR 0 hms (fun r hr => (hs0.r r hr).2) (fun x hx => by rw [(List.mem_replicate.1 hx).2]; exact zR_le 0) (zR_le 0)
  rw [Nat.zero_add] at hle1 hle2
  have hn := hs0.n
  have hol := sumR_len rows ms (List.replicate V zR) zR (by simp) (fun r hr => (hs0.r r hr).1)
  have hv := hs0.v
  rw [← hol] at hv
  clear hs0 hml hms hol
  generalize sumR (List.replicate V zR) zR rows ms = R at *
  obtain ⟨out, last⟩ := R
  simp only at hsum hle1 hle2 hv
  have hneg := negative_d last (hle2.ok' (by omega))
  have hz := fun x hx => zero_d x ((hle1 x hx).ok' (by omega))
  unfold refutesR
  simp only
  refine dcall_mk orders Try.func35 rfl (by kernel_rfl) (fun d => d == 8 || d == 10) (by kernel_rfl) rfl (fun hs => ?_)
  clear hs
  repeat' (first
    | with_reducible refine cdK_splitN (fun h => ?_) (fun h => ?_)
    | with_reducible refine gdK_splitTN (fun h => ?_) (fun h => ?_)
    | with_reducible refine gdK_splitFN (fun h => ?_) (fun h => ?_)
    | with_reducible refine cdK_split (fun h => ?_) (fun h => ?_)
    | with_reducible refine gdK_splitT (fun h => ?_) (fun h => ?_)
    | with_reducible refine gdK_splitF (fun h => ?_) (fun h => ?_)
    | refine clK_mk (hsum) rfl ?_
    | simp only [go_sem, Nat.reduceBEq, Nat.reduceAdd, Nat.reduceMul, Nat.reduceSub, Nat.reduceLeDiff, Nat.reduceLT, Nat.reduceEqDiff, Int.reduceEq, Int.reduceBEq, Int.reduceBNe, Int.reduceLT, Int.reduceLE, *])
  refine loop_range out (fun k s' => hget s'.hp (8, 0) = some ⟨last.cs.map .t, 2, 1, tRInt, true, true⟩ ∧ out.all (fun x => decide (x.p = x.n)) = (out.drop k).all (fun x => decide (x.p = x.n))) rfl rfl (by first | assumption | omega) (by kernel_rfl) (fun _ _ _ _ hj => hj) (fun _ _ _ hj => hj) ?_ (fun k x s' hx hd hk hJ hix hfr G hG => ?_) (fun s' hJ hfr => ?_)
  · exact ⟨rfl, rfl⟩
  · have c8 := hfr 8 (by kernel_rfl)
    have c18 := hfr 18 (by kernel_rfl)
    clear hfr
    simp only [go_sem, Nat.reduceBEq, Nat.reduceAdd, Nat.reduceMul, Nat.reduceSub, Nat.reduceLeDiff, Nat.reduceLT, Nat.reduceEqDiff, Int.reduceEq, Int.reduceBEq, Int.reduceBNe, Int.reduceLT, Int.reduceLE] at c8 c18
    change _ = PV.ad (8, 0) 1 0 at c8
    obtain ⟨h8, hJ⟩ := hJ
    rw [hd, List.all_cons] at hJ
    have hz1 := hz x (List.mem_of_getElem? hx)
    generalize decide (x.p = x.n) = zb at *
    cases zb with
    | true =>
      rw [Bool.true_and] at hJ
      repeat' (first
        | with_reducible refine cdK_splitN (fun h => ?_) (fun h => ?_)
        | with_reducible refine gdK_splitTN (fun h => ?_) (fun h => ?_)
        | with_reducible refine gdK_splitFN (fun h => ?_) (fun h => ?_)
        | with_reducible refine cdK_split (fun h => ?_) (fun h => ?_)
        | with_reducible refine gdK_splitT (fun h => ?_) (fun h => ?_)
        | with_reducible refine gdK_splitF (fun h => ?_) (fun h => ?_)
        | refine clK_mk (hz1) rfl ?_
        | simp only [go_sem, Nat.reduceBEq, Nat.reduceAdd, Nat.reduceMul, Nat.reduceSub, Nat.reduceLeDiff, Nat.reduceLT, Nat.reduceEqDiff, Int.reduceEq, Int.reduceBEq, Int.reduceBNe, Int.reduceLT, Int.reduceLE, *])
    | false =>
      rw [Bool.false_and] at hJ
      repeat' (first
        | with_reducible refine cdK_splitN (fun h => ?_) (fun h => ?_)
        | with_reducible refine gdK_splitTN (fun h => ?_) (fun h => ?_)
        | with_reducible refine gdK_splitFN (fun h => ?_) (fun h => ?_)
        | with_reducible refine cdK_split (fun h => ?_) (fun h => ?_)
        | with_reducible refine gdK_splitT (fun h => ?_) (fun h => ?_)
        | with_reducible refine gdK_splitF (fun h => ?_) (fun h => ?_)
        | refine clK_mk (hz1) rfl ?_
        | simp only [go_sem, Nat.reduceBEq, Nat.reduceAdd, Nat.reduceMul, Nat.reduceSub, Nat.reduceLeDiff, Nat.reduceLT, Nat.reduceEqDiff, Int.reduceEq, Int.reduceBEq, Int.reduceBNe, Int.reduceLT, Int.reduceLE, *])
  · have c8 := hfr 8 (by kernel_rfl)
    clear hfr
    simp only [go_sem, Nat.reduceBEq, Nat.reduceAdd, Nat.reduceMul, Nat.reduceSub, Nat.reduceLeDiff, Nat.reduceLT, Nat.reduceEqDiff, Int.reduceEq, Int.reduceBEq, Int.reduceBNe, Int.reduceLT, Int.reduceLE] at c8
    change _ = PV.ad (8, 0) 1 0 at c8
    obtain ⟨h8, hJ⟩ := hJ
    rw [List.drop_length, List.all_nil] at hJ
    rw [hJ, Bool.true_and]
    repeat' (first
      | with_reducible refine cdK_splitN (fun h => ?_) (fun h => ?_)
      | with_reducible refine gdK_splitTN (fun h => ?_) (fun h => ?_)
      | with_reducible refine gdK_splitFN (fun h => ?_) (fun h => ?_)
      | with_reducible refine cdK_split (fun h => ?_) (fun h => ?_)
      | with_reducible refine gdK_splitT (fun h => ?_) (fun h => ?_)
      | with_reducible refine gdK_splitF (fun h => ?_) (fun h => ?_)
      | refine clK_mk (hneg) rfl ?_
      | simp only [go_sem, Nat.reduceBEq, Nat.reduceAdd, Nat.reduceMul, Nat.reduceSub, Nat.reduceLeDiff, Nat.reduceLT, Nat.reduceEqDiff, Int.reduceEq, Int.reduceBEq, Int.reduceBNe, Int.reduceLT, Int.reduceLE, *])

theorem ok_rows (l : List Row) : ∀ x ∈ l.map Row.tr, elemOK true 2 x := by
  intro x hx
  obtain ⟨y, _, rfl⟩ := List.mem_map.1 hx
  exact ⟨fun _ => rfl, (fun h => nomatch h), rfl⟩
theorem both_d (rnn : Bool) (rows : List Row) (row : Row) (hlen : rows.length ≤ 1000000) : DCall Try.prog 74 [.sl rnn (rows.map Row.tr), row.tr] (.sl true ((rows ++ [row]).map Row.tr)) := by
  refine dcall_mk orders Try.func74 rfl (by kernel_rfl) (fun d => d == 5 || d == 7 || d == 10) (by kernel_rfl) rfl (fun hs => ?_)
  clear hs
  repeat' (first
    | with_reducible refine cdK_splitN (fun h => ?_) (fun h => ?_)
    | with_reducible refine gdK_splitTN (fun h => ?_) (fun h => ?_)
    | with_reducible refine gdK_splitFN (fun h => ?_) (fun h => ?_)
    | with_reducible refine cdK_split (fun h => ?_) (fun h => ?_)
    | with_reducible refine gdK_splitT (fun h => ?_) (fun h => ?_)
    | with_reducible refine gdK_splitF (fun h => ?_) (fun h => ?_)
    | simp only [go_sem, Nat.reduceBEq, Nat.reduceAdd, Nat.reduceMul, Nat.reduceSub, Nat.reduceLeDiff, Nat.reduceLT, Nat.reduceEqDiff, Int.reduceEq, Int.reduceBEq, Int.reduceBNe, Int.reduceLT, Int.reduceLE, *])
  refine hpK_append_any (Own.fresh (l := []) (by simp)) (by kernel_rfl) (by kernel_rfl) (by kernel_rfl) rfl (by kernel_rfl) (ok_rows rows) (by simp; omega) (fun v' h' ho hf => ?_)
  repeat' (first
    | with_reducible refine cdK_splitN (fun h => ?_) (fun h => ?_)
    | with_reducible refine gdK_splitTN (fun h => ?_) (fun h => ?_)
    | with_reducible refine gdK_splitFN (fun h => ?_) (fun h => ?_)
    | with_reducible refine cdK_split (fun h => ?_) (fun h => ?_)
    | with_reducible refine gdK_splitT (fun h => ?_) (fun h => ?_)
    | with_reducible refine gdK_splitF (fun h => ?_) (fun h => ?_)
    | simp only [go_sem, Nat.reduceBEq, Nat.reduceAdd, Nat.reduceMul, Nat.reduceSub, Nat.reduceLeDiff, Nat.reduceLT, Nat.reduceEqDiff, Int.reduceEq, Int.reduceBEq, Int.reduceBNe, Int.reduceLT, Int.reduceLE, *])
  refine hpK_append_any ho (by kernel_rfl) (by kernel_rfl) (by kernel_rfl) rfl (by kernel_rfl) (ok_rows [row]) (by simp; omega) (fun v'' h'' ho2 hf2 => ?_)
  have hdep := ho2.dep
  repeat' (first
    | with_reducible refine cdK_splitN (fun h => ?_) (fun h => ?_)
    | with_reducible refine gdK_splitTN (fun h => ?_) (fun h => ?_)
    | with_reducible refine gdK_splitFN (fun h => ?_) (fun h => ?_)
    | with_reducible refine cdK_split (fun h => ?_) (fun h => ?_)
    | with_reducible refine gdK_splitT (fun h => ?_) (fun h => ?_)
    | with_reducible refine gdK_splitF (fun h => ?_) (fun h => ?_)
    | simp only [go_sem, Nat.reduceBEq, Nat.reduceAdd, Nat.reduceMul, Nat.reduceSub, Nat.reduceLeDiff, Nat.reduceLT, Nat.reduceEqDiff, Int.reduceEq, Int.reduceBEq, Int.reduceBNe, Int.reduceLT, Int.reduceLE, *])
  all_goals simp [Row.tr]

/-! certificates -/
structure Cert where
  scale : Nat
  mnn : Bool
  ms : List Nat
def Cert.tr (f : Cert) : Tr := .agg [.int .u64 (f.scale : Int), .sl f.mnn (f.ms.map u64T)]
attribute [go_sem] Cert.tr
def mostR (x y : RInt) : Bool := !decide (y.p + x.n < x.p + y.n)
def eqGo : List RInt → List Int → Nat → Bool
  | c :: out, a :: l, b => (mostR c (withR zR a b) && mostR (withR zR a b) c) && eqGo out l b
  | _, _, _ => true
def provesR (q : List RInt × RInt) (row : Row) (sc : Nat) : Bool := if sc = 0 then refutesR q else eqGo q.1 row.coefs sc && mostR q.2 (withR zR row.const sc)
set_option maxHeartbeats 1000000 in
theorem refProves_d (V : Nat) (rnn : Bool) (rows : List Row) (row : Row) (f : Cert) (hs0 : Sys V rows) (hrow : row.coefs.length = V ∧ smallB row.const = true ∧ ∀ c ∈ row.coefs, smallB c = true) (hml : rows.length ≤ f.ms.length) (hms : ∀ m ∈ f.ms, m < 18446744073709551616) (hsc : f.scale < 18446744073709551616) :
    DCall Try.prog 38 [i64 V, .sl rnn (rows.map Row.tr), row.tr, f.tr] (.bool (provesR (sumR (List.replicate V zR) zR rows f.ms) row f.scale)) := by
  obtain ⟨sc, mnn, ms⟩ := f
  simp only at hml hms hsc ⊢
  have hsum := sum_d V rnn rows mnn ms hs0.v hs0.n hml hms hs0.r
  have href := refRefutes_d V rnn rows mnn ms hs0 hml hms
  obtain ⟨hle1, hle2⟩ := sumR_le rows ms (List.replicate V zR) zR 0 hms (fun r hr => (hs0.r r hr).2) (fun x hx => by rw [(List.mem_replicate.1 hx).2]; exact zR_le 0) (zR_le 0)
  rw [Nat.zero_add] at hle1 hle2
  have hn := hs0.n
  have hol := sumR_len rows ms (List.replicate V zR) zR (by simp) (fun r hr => (hs0.r r hr).1)
  have hv := hs0.v
  clear hs0 hml hms
  generalize sumR (List.replicate V zR) zR rows ms = R at *
  obtain ⟨out, last⟩ := R
  simp only at hsum hle1 hle2 hv hol
  obtain ⟨hr1, hr2, hr3⟩ := hrow
  have hol1 : out.length ≤ row.coefs.length := by omega
  have hol2 : out.length ≤ 128 := by omega
  clear hol hr1
  by_cases h0 : sc = 0
  · subst h0
    rw [show provesR (out, last) row 0 = refutesR (out, last) from if_pos rfl]
    have g1 : (((0 : Nat) : Int) == 0) = true := rfl
    refine dcall_mk orders Try.func38 rfl (by kernel_rfl) (fun d => d == 10 || d == 13 || d == 14) (by kernel_rfl) rfl (fun hs => ?_)
    clear hs
    repeat' (first
      | with_reducible refine cdK_splitN (fun h => ?_) (fun h => ?_)
      | with_reducible refine gdK_splitTN (fun h => ?_) (fun h => ?_)
      | with_reducible refine gdK_splitFN (fun h => ?_) (fun h => ?_)
      | with_reducible refine cdK_split (fun h => ?_) (fun h => ?_)
      | with_reducible refine gdK_splitT (fun h => ?_) (fun h => ?_)
      | with_reducible refine gdK_splitF (fun h => ?_) (fun h => ?_)
      | refine clK_mk (href) rfl ?_
      | simp only [go_sem, Nat.reduceBEq, Nat.reduceAdd, Nat.reduceMul, Nat.reduceSub, Nat.reduceLeDiff, Nat.reduceLT, Nat.reduceEqDiff, Int.reduceEq, Int.reduceBEq, Int.reduceBNe, Int.reduceLT, Int.reduceLE, *])
  · rw [show provesR (out, last) row sc = (eqGo out row.coefs sc && mostR last (withR zR row.const sc)) from if_neg h0]
    have g1 : ((sc : Int) == 0) = false := by simpa using h0
    have hof := ofN_d sc hsc
    have hby := fun a (ha : smallB a = true) => with_d zR a true sc ⟨by have := smallB_abs ha; omega, by have := smallB_abs ha; omega⟩ (Nat.le_trans (digs64 hsc) (by decide)) (by rw [show zR.p = 0 from rfl, digs_zero]; simp) (by rw [show zR.n = 0 from rfl, digs_zero]; simp)
    have hwo := fun a (ha : smallB a = true) => (withR_le (zR_le 0) (smallB_abs ha) hsc).ok' (by decide)
    have hmo1 := fun x (hx : x ∈ out) a (ha : smallB a = true) => most_d x (withR zR a sc) ((hle1 x hx).ok' (by omega)) (hwo a ha)
    have hmo2 := fun x (hx : x ∈ out) a (ha : smallB a = true) => most_d (withR zR a sc) x (hwo a ha) ((hle1 x hx).ok' (by omega))
    have hml := most_d last (withR zR row.const sc) (hle2.ok' (by omega)) (hwo _ hr2)
    have hbyc := hby row.const hr2
    clear hle1 hle2 hwo
    have hz : ∀ (l : List Tr) (P : Prop), P → P := fun _ _ h => h
    unfold RInt.tr at hby hbyc
    rw [zR_cs] at hbyc
    simp only [zR_cs] at hby
    refine dcall_mk orders Try.func38 rfl (by kernel_rfl) (fun d => d == 10 || d == 13 || d == 14) (by kernel_rfl) rfl (fun hs => ?_)
    clear hs
    repeat' (first
      | with_reducible refine cdK_splitN (fun h => ?_) (fun h => ?_)
      | with_reducible refine gdK_splitTN (fun h => ?_) (fun h => ?_)
      | with_reducible refine gdK_splitFN (fun h => ?_) (fun h => ?_)
      | with_reducible refine cdK_split (fun h => ?_) (fun h => ?_)
      | with_reducible refine gdK_splitT (fun h => ?_) (fun h => ?_)
      | with_reducible refine gdK_splitF (fun h => ?_) (fun h => ?_)
      | refine clK_mk (hsum) rfl ?_
      | refine clK_mk (hof) rfl ?_
      | simp only [go_sem, Nat.reduceBEq, Nat.reduceAdd, Nat.reduceMul, Nat.reduceSub, Nat.reduceLeDiff, Nat.reduceLT, Nat.reduceEqDiff, Int.reduceEq, Int.reduceBEq, Int.reduceBNe, Int.reduceLT, Int.reduceLE, *])
    refine loop_range out (fun k s' => hget s'.hp (10, 0) = some ⟨last.cs.map .t, 2, 1, tRInt, true, true⟩ ∧ eqGo out row.coefs sc = eqGo (out.drop k) (row.coefs.drop k) sc) rfl rfl (by first | assumption | omega) (by kernel_rfl) (fun _ _ _ _ hj => hj) (fun _ _ _ hj => hj) ?_ (fun k x s' hx hd hk hJ hix hfr G hG => ?_) (fun s' hJ hfr => ?_)
    · exact ⟨rfl, rfl⟩
    · have c6 := hfr 6 (by kernel_rfl)
      have c11 := hfr 11 (by kernel_rfl)
      have c34 := hfr 34 (by kernel_rfl)
      clear hfr
      simp only [go_sem, Nat.reduceBEq, Nat.reduceAdd, Nat.reduceMul, Nat.reduceSub, Nat.reduceLeDiff, Nat.reduceLT, Nat.reduceEqDiff, Int.reduceEq, Int.reduceBEq, Int.reduceBNe, Int.reduceLT, Int.reduceLE] at c6 c11 c34
      obtain ⟨h10, hJ⟩ := hJ
      obtain ⟨a, ha, had⟩ := get_of_lt row.coefs k (by omega)
      have hasm := hr3 a (List.mem_of_getElem? ha)
      rw [hd, had, eqGo] at hJ
      have m1 := hmo1 x (List.mem_of_getElem? hx) a hasm
      have m2 := hmo2 x (List.mem_of_getElem? hx) a hasm
      have b1 := hby a hasm
      change DCall _ _ _ (.bool (mostR x (withR zR a sc))) at m1
      change DCall _ _ _ (.bool (mostR (withR zR a sc) x)) at m2
      unfold RInt.tr at m1 m2
      generalize mostR x (withR zR a sc) = z1 at *
      generalize mostR (withR zR a sc) x = z2 at *
      generalize withR zR a sc = W at *
      cases z1 with
      | false =>
        rw [Bool.false_and, Bool.false_and] at hJ
        repeat' (first
          | with_reducible refine cdK_splitN (fun h => ?_) (fun h => ?_)
          | with_reducible refine gdK_splitTN (fun h => ?_) (fun h => ?_)
          | with_reducible refine gdK_splitFN (fun h => ?_) (fun h => ?_)
          | with_reducible refine cdK_split (fun h => ?_) (fun h => ?_)
          | with_reducible refine gdK_splitT (fun h => ?_) (fun h => ?_)
          | with_reducible refine gdK_splitF (fun h => ?_) (fun h => ?_)
          | refine clK_mk (b1) rfl ?_
          | refine clK_mk (m1) rfl ?_
          | simp only [go_sem, Nat.reduceBEq, Nat.reduceAdd, Nat.reduceMul, Nat.reduceSub, Nat.reduceLeDiff, Nat.reduceLT, Nat.reduceEqDiff, Int.reduceEq, Int.reduceBEq, Int.reduceBNe, Int.reduceLT, Int.reduceLE, *])
      | true =>
        cases z2 with
        | false =>
          rw [Bool.true_and, Bool.false_and] at hJ
          repeat' (first
            | with_reducible refine cdK_splitN (fun h => ?_) (fun h => ?_)
            | with_reducible refine gdK_splitTN (fun h => ?_) (fun h => ?_)
            | with_reducible refine gdK_splitFN (fun h => ?_) (fun h => ?_)
            | with_reducible refine cdK_split (fun h => ?_) (fun h => ?_)
            | with_reducible refine gdK_splitT (fun h => ?_) (fun h => ?_)
            | with_reducible refine gdK_splitF (fun h => ?_) (fun h => ?_)
            | refine clK_mk (b1) rfl ?_
            | refine clK_mk (m1) rfl ?_
            | refine clK_mk (m2) rfl ?_
            | simp only [go_sem, Nat.reduceBEq, Nat.reduceAdd, Nat.reduceMul, Nat.reduceSub, Nat.reduceLeDiff, Nat.reduceLT, Nat.reduceEqDiff, Int.reduceEq, Int.reduceBEq, Int.reduceBNe, Int.reduceLT, Int.reduceLE, *])
        | true =>
          rw [Bool.true_and, Bool.true_and] at hJ
          repeat' (first
            | with_reducible refine cdK_splitN (fun h => ?_) (fun h => ?_)
            | with_reducible refine gdK_splitTN (fun h => ?_) (fun h => ?_)
            | with_reducible refine gdK_splitFN (fun h => ?_) (fun h => ?_)
            | with_reducible refine cdK_split (fun h => ?_) (fun h => ?_)
            | with_reducible refine gdK_splitT (fun h => ?_) (fun h => ?_)
            | with_reducible refine gdK_splitF (fun h => ?_) (fun h => ?_)
            | refine clK_mk (b1) rfl ?_
            | refine clK_mk (m1) rfl ?_
            | refine clK_mk (m2) rfl ?_
            | simp only [go_sem, Nat.reduceBEq, Nat.reduceAdd, Nat.reduceMul, Nat.reduceSub, Nat.reduceLeDiff, Nat.reduceLT, Nat.reduceEqDiff, Int.reduceEq, Int.reduceBEq, Int.reduceBNe, Int.reduceLT, Int.reduceLE, *])
    · have c6 := hfr 6 (by kernel_rfl)
      have c10 := hfr 10 (by kernel_rfl)
      have c11 := hfr 11 (by kernel_rfl)
      clear hfr
      simp only [go_sem, Nat.reduceBEq, Nat.reduceAdd, Nat.reduceMul, Nat.reduceSub, Nat.reduceLeDiff, Nat.reduceLT, Nat.reduceEqDiff, Int.reduceEq, Int.reduceBEq, Int.reduceBNe, Int.reduceLT, Int.reduceLE] at c6 c10 c11
      change _ = PV.ad (10, 0) 1 0 at c10
      obtain ⟨h10, hJ⟩ := hJ
      rw [List.drop_length] at hJ
      have hJ' : eqGo out row.coefs sc = true := by rw [hJ]; cases hdd : row.coefs.drop out.length <;> rfl
      rw [hJ', Bool.true_and]
      change DCall _ _ _ (.bool (mostR last (withR zR row.const sc))) at hml
      unfold RInt.tr at hml
      clear hJ hJ'
      generalize mostR last (withR zR row.const sc) = z1 at *
      generalize withR zR row.const sc = W at *
      repeat' (first
        | with_reducible refine cdK_splitN (fun h => ?_) (fun h => ?_)
        | with_reducible refine gdK_splitTN (fun h => ?_) (fun h => ?_)
        | with_reducible refine gdK_splitFN (fun h => ?_) (fun h => ?_)
        | with_reducible refine cdK_split (fun h => ?_) (fun h => ?_)
        | with_reducible refine gdK_splitT (fun h => ?_) (fun h => ?_)
        | with_reducible refine gdK_splitF (fun h => ?_) (fun h => ?_)
        | refine clK_mk (hbyc) rfl ?_
        | refine clK_mk (hml) rfl ?_
        | simp only [go_sem, Nat.reduceBEq, Nat.reduceAdd, Nat.reduceMul, Nat.reduceSub, Nat.reduceLeDiff, Nat.reduceLT, Nat.reduceEqDiff, Int.reduceEq, Int.reduceBEq, Int.reduceBNe, Int.reduceLT, Int.reduceLE, *])
end Ytajgclnahfmfmaa
end Go.Vm
