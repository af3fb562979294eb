/- Executions: steps. -/
import Derived.Test.YtajgclnahfmfmaaR2
set_option linter.unusedSimpArgs false
set_option maxRecDepth 10000
namespace Go.Vm
open Go Go.Proofs
namespace Ytajgclnahfmfmaa
open Go.Proofs.Try

attribute [go_sem] Try.results48 Try.results25 Try.results112 Try.results81 Try.results85 Try.results52 Try.results23

theorem after_d (nn : Bool) (l : List Int) (n : Nat) : DCall Try.prog 48 [.sl nn (ints l), i64 n] (.sl nn (ints (l.drop n))) := by
  refine dcall_mk orders Try.func48 rfl (by kernel_rfl) noMu (by kernel_rfl) rfl (fun hs => ?_)
  repeat' (first
    | with_reducible refine cdK_splitN (fun h => ?_) (fun h => ?_)
    | with_reducible refine gdK_splitTN (fun h => ?_) (fun h => ?_)
    | with_reducible refine gdK_splitFN (fun h => ?_) (fun h => ?_)
    | refine cdK_split (fun h => ?_) (fun h => ?_)
    | refine gdK_splitT (fun h => ?_) (fun h => ?_)
    | refine gdK_splitF (fun h => ?_) (fun h => ?_)
    | simp only [go_sem, Nat.reduceBEq, Nat.reduceAdd, Nat.reduceMul, Nat.reduceSub, Nat.reduceLeDiff, Nat.reduceLT, Nat.reduceEqDiff, Int.reduceEq, Int.reduceBEq, Int.reduceBNe, Int.reduceLT, Int.reduceLE, *])
  refine hpK_if (by repeat' (first | omega | apply And.intro | split)) ?_
  have e : (List.drop (if (l.length : Int) < n then (l.length : Int) else n).toNat (List.take (l.length : Int).toNat (ints l))) = ints (l.drop n) := by
    have : (ints l).take (l.length : Int).toNat = ints l := by rw [Int.toNat_natCast]; exact List.take_of_length_le (by simp)
    rw [this, ← List.map_drop]
    split
    · rw [Int.toNat_natCast, List.drop_length, List.drop_of_length_le (by omega)]
    · rfl
  repeat' (first
    | with_reducible refine cdK_splitN (fun h => ?_) (fun h => ?_)
    | with_reducible refine gdK_splitTN (fun h => ?_) (fun h => ?_)
    | with_reducible refine gdK_splitFN (fun h => ?_) (fun h => ?_)
    | refine cdK_split (fun h => ?_) (fun h => ?_)
    | refine gdK_splitT (fun h => ?_) (fun h => ?_)
    | refine gdK_splitF (fun h => ?_) (fun h => ?_)
    | simp only [go_sem, Nat.reduceBEq, Nat.reduceAdd, Nat.reduceMul, Nat.reduceSub, Nat.reduceLeDiff, Nat.reduceLT, Nat.reduceEqDiff, Int.reduceEq, Int.reduceBEq, Int.reduceBNe, Int.reduceLT, Int.reduceLE, *, e])
  rw [← e]; rfl

/-! a step -/
def stepGo (s : State) (draws : List Int) : List Upd → Nat → Bool → List Int → List Int × Nat × Int
  | [], used, late, acc => if late then ([], 0, 3) else (acc, used, 0)
  | u :: r, used, late, acc => if u.any then (if wordB (draws.getD used 0) then stepGo s draws r (used + 1) late (acc ++ [draws.getD used 0]) else ([], 0, 2))
    else stepGo s draws r used (if late then true else !wordB (evalR u.expr s.vals)) (acc ++ [evalR u.expr s.vals])
abbrev tI64 : TypeId := 2
def zeroS : State := ⟨0, false, []⟩

theorem chF_lt (s : State) : ∀ (l : List Trans) (k : Nat) (m : Int), m < k → (chF s k l).any (fun y => m == y) = false
  | [], _, _, _ => rfl
  | x :: l, k, m, hm => by
    have ih := chF_lt s l (k + 1) m (by omega)
    unfold chF
    split
    · rw [List.any_cons, ih, Bool.or_false]; simp; omega
    · exact ih
theorem chF_any (s : State) : ∀ (l : List Trans) (k n : Nat) (x : Trans), l[n]? = some x → (chF s k l).any (fun y => ((k + n : Nat) : Int) == y) = openB s x
  | [], _, n, _, h => by simp at h
  | y :: l, k, 0, x, h => by
    simp at h; subst h
    have ih := chF_lt s l (k + 1) k (by omega)
    unfold chF
    split
    · rename_i ho; rw [List.any_cons]; simp [ho]
    · rename_i ho
      simp only [Nat.add_zero, ih]; simpa using ho
  | y :: l, k, n + 1, x, h => by
    have ih := chF_any s l (k + 1) n x (by simpa using h)
    have e : k + 1 + n = k + (n + 1) := by omega
    rw [e] at ih
    unfold chF
    split
    · rw [List.any_cons, ih]; simp; intro h; omega
    · exact ih
theorem choices_any {f : Flow} {s : State} {n : Nat} {x : Trans} (h : f.trans[n]? = some x) : (choices f s).any (fun y => (n : Int) == y) = openB s x := by
  have := chF_any s f.trans 0 n x h
  rw [Nat.zero_add] at this; exact this

def stepOf (to_ : Int) (q : List Int × Nat × Int) : State × Nat × Int := if q.2.2 = 0 then (⟨to_, !q.1.isEmpty, q.1⟩, q.2.1, 0) else (zeroS, 0, q.2.2)
/-- the step of a transition, as the reference says it -/
def stepR (f : Flow) (s : State) (t : Int) (draws : List Int) : State × Nat × Int :=
  if t < 0 then (zeroS, 0, 8) else match f.trans[t.toNat]? with
  | none => (zeroS, 0, 8)
  | some x => if openB s x then stepOf x.to_ (stepGo s draws x.next 0 false []) else (zeroS, 0, 9)
def stepTr (q : State × Nat × Int) : Tr := .tup [q.1.tr, i64 q.2.1, i64 q.2.2]
theorem stepGo_err (s : State) (draws : List Int) : ∀ (l : List Upd) (n : Nat) (late : Bool) (acc : List Int), (stepGo s draws l n late acc).2.2 ≠ 0 → (stepGo s draws l n late acc).1 = [] ∧ (stepGo s draws l n late acc).2.1 = 0
  | [], n, late, acc => by cases late <;> simp [stepGo]
  | u :: r, n, late, acc => by
    have ih1 := stepGo_err s draws r (n + 1) late (acc ++ [draws.getD n 0])
    unfold stepGo
    split
    · split
      · exact ih1
      · simp
    · exact stepGo_err s draws r n _ _

theorem refStep_out (f : Flow) (s : State) (t : Int) (dnn : Bool) (draws : List Int) (ht : t < 0 ∨ t ≥ f.trans.length) : DCall Try.prog 25 [f.tr, s.tr, i64 t, .sl dnn (ints draws)] (stepTr (zeroS, 0, 8)) := by
  refine dcall_mk orders Try.func25 rfl (by kernel_rfl) (fun d => d == 8 || d == 11 || d == 15 || d == 83) (by kernel_rfl) rfl (fun hs => ?_)
  repeat' (first
    | with_reducible refine cdK_splitN (fun h => ?_) (fun h => ?_)
    | with_reducible refine gdK_splitTN (fun h => ?_) (fun h => ?_)
    | with_reducible refine gdK_splitFN (fun h => ?_) (fun h => ?_)
    | refine cdK_split (fun h => ?_) (fun h => ?_)
    | refine gdK_splitT (fun h => ?_) (fun h => ?_)
    | refine gdK_splitF (fun h => ?_) (fun h => ?_)
    | simp only [go_sem, Nat.reduceBEq, Nat.reduceAdd, Nat.reduceMul, Nat.reduceSub, Nat.reduceLeDiff, Nat.reduceLT, Nat.reduceEqDiff, Int.reduceEq, Int.reduceBEq, Int.reduceBNe, Int.reduceLT, Int.reduceLE, *])
  try any_goals (refine congrArg some ?_; first | rfl | (simp only [go_sem, Nat.reduceBEq, Nat.reduceAdd, Nat.reduceMul, Nat.reduceSub, Nat.reduceLeDiff, Nat.reduceLT, Nat.reduceEqDiff, Int.reduceEq, Int.reduceBEq, Int.reduceBNe, Int.reduceLT, Int.reduceLE, stepTr, zeroS, *]; done) | (simp only [go_sem, Nat.reduceBEq, Nat.reduceAdd, Nat.reduceMul, Nat.reduceSub, Nat.reduceLeDiff, Nat.reduceLT, Nat.reduceEqDiff, Int.reduceEq, Int.reduceBEq, Int.reduceBNe, Int.reduceLT, Int.reduceLE, stepTr, zeroS, *]; rfl) | (simp_all [stepTr, zeroS]; done))
  rename_i h1
  simp at h h1; omega
theorem refStep_shut (f : Flow) (s : State) (n : Nat) (x : Trans) (hx0 : f.trans[n]? = some x) (dnn : Bool) (draws : List Int) (hl : ∀ t ∈ f.trans, okTrans s t) (hlen : f.trans.length ≤ 1048576) (ho : openB s x = false) : DCall Try.prog 25 [f.tr, s.tr, i64 n, .sl dnn (ints draws)] (stepTr (zeroS, 0, 9)) := by
  refine dcall_mk orders Try.func25 rfl (by kernel_rfl) (fun d => d == 8 || d == 11 || d == 15 || d == 83) (by kernel_rfl) rfl (fun hs => ?_)
  have hc := enabled_d f s hl hlen
  have hh := has_d (!(choices f s).isEmpty) (choices f s) n
  rw [choices_any hx0, ho] at hh
  have hn : n < f.trans.length := (List.getElem?_eq_some_iff.1 hx0).1
  repeat' (first
    | with_reducible refine cdK_splitN (fun h => ?_) (fun h => ?_)
    | with_reducible refine gdK_splitTN (fun h => ?_) (fun h => ?_)
    | with_reducible refine gdK_splitFN (fun h => ?_) (fun h => ?_)
    | refine cdK_split (fun h => ?_) (fun h => ?_)
    | refine gdK_splitT (fun h => ?_) (fun h => ?_)
    | refine gdK_splitF (fun h => ?_) (fun h => ?_)
    | refine clK_mk (hc) rfl ?_
    | refine clK_mk (hh) rfl ?_
    | simp only [go_sem, Nat.reduceBEq, Nat.reduceAdd, Nat.reduceMul, Nat.reduceSub, Nat.reduceLeDiff, Nat.reduceLT, Nat.reduceEqDiff, Int.reduceEq, Int.reduceBEq, Int.reduceBNe, Int.reduceLT, Int.reduceLE, *])
  try any_goals (refine congrArg some ?_; first | rfl | (simp only [go_sem, Nat.reduceBEq, Nat.reduceAdd, Nat.reduceMul, Nat.reduceSub, Nat.reduceLeDiff, Nat.reduceLT, Nat.reduceEqDiff, Int.reduceEq, Int.reduceBEq, Int.reduceBNe, Int.reduceLT, Int.reduceLE, stepTr, zeroS, *]; done) | (simp only [go_sem, Nat.reduceBEq, Nat.reduceAdd, Nat.reduceMul, Nat.reduceSub, Nat.reduceLeDiff, Nat.reduceLT, Nat.reduceEqDiff, Int.reduceEq, Int.reduceBEq, Int.reduceBNe, Int.reduceLT, Int.reduceLE, stepTr, zeroS, *]; rfl) | (simp_all [stepTr, zeroS]; done))
  all_goals (simp at h; omega)
theorem refStep_go (f : Flow) (s : State) (n : Nat) (y : Trans) (hx0 : f.trans[n]? = some y) (dnn : Bool) (draws : List Int) (hg : Good f s) (ho : openB s y = true) :
    DCall Try.prog 25 [f.tr, s.tr, i64 n, .sl dnn (ints draws)] (stepTr (stepOf y.to_ (stepGo s draws y.next 0 false []))) := by
  refine dcall_mk orders Try.func25 rfl (by kernel_rfl) (fun d => d == 8 || d == 11 || d == 15 || d == 83) (by kernel_rfl) rfl (fun hs => ?_)
  have hc := enabled_d f s (fun t ht => hg.okT ht) (by have := hg.flow.len; omega)
  have hh := has_d (!(choices f s).isEmpty) (choices f s) n
  rw [choices_any hx0, ho] at hh
  have hn : n < f.trans.length := (List.getElem?_eq_some_iff.1 hx0).1
  have d1 : decide ((n : Int) < 0) = false := by simp
  have d2 : decide ((n : Int) ≥ f.trans.length) = false := by simp; omega
  repeat' (first
    | with_reducible refine cdK_splitN (fun h => ?_) (fun h => ?_)
    | with_reducible refine gdK_splitTN (fun h => ?_) (fun h => ?_)
    | with_reducible refine gdK_splitFN (fun h => ?_) (fun h => ?_)
    | refine cdK_split (fun h => ?_) (fun h => ?_)
    | refine gdK_splitT (fun h => ?_) (fun h => ?_)
    | refine gdK_splitF (fun h => ?_) (fun h => ?_)
    | refine clK_mk (hc) rfl ?_
    | refine clK_mk (hh) rfl ?_
    | simp only [go_sem, Nat.reduceBEq, Nat.reduceAdd, Nat.reduceMul, Nat.reduceSub, Nat.reduceLeDiff, Nat.reduceLT, Nat.reduceEqDiff, Int.reduceEq, Int.reduceBEq, Int.reduceBNe, Int.reduceLT, Int.reduceLE, *])
  have hnext := (hg.flow.all y (List.mem_of_getElem? hx0)).next
  have hv2 := hg.flow.vars2
  refine loop_range y.next (fun k s' => ∃ (used : Nat) (late : Bool) (acc : List Int) (v : PV), s'.sl 12 = .t (i64 used) ∧ s'.sl 13 = .t (.bool late) ∧ hget s'.hp (11, 0) = some ⟨[.t (i64 y.to_), v], 2, 1, tState, true, true⟩ ∧ Own s'.hp 83 tI64 1 false v (!acc.isEmpty) (ints acc) ∧ hget s'.hp (8, 0) = some ⟨[.t (i64 0), .t (.sl false [])], 2, 1, tState, true, true⟩ ∧ acc.length ≤ k ∧ used ≤ k ∧ stepGo s draws y.next 0 false [] = stepGo s draws (y.next.drop k) used late acc) rfl rfl (by first | assumption | omega) (by kernel_rfl) (fun _ _ _ _ hj => hj) (fun _ _ _ hj => hj) ?_ (fun k x s' hx hd hk hJ hix hfr G hG => ?_) (fun s' hJ hfr => ?_)
  · exact ⟨0, false, [], _, rfl, rfl, rfl, Own.nil, rfl, Nat.le_refl _, Nat.le_refl _, rfl⟩
  · have c3 := hfr 3 (by kernel_rfl)
    have c5 := hfr 5 (by kernel_rfl)
    have c8 := hfr 8 (by kernel_rfl)
    have c11 := hfr 11 (by kernel_rfl)
    have c46 := hfr 46 (by kernel_rfl)
    clear hfr
    simp only [go_sem, Nat.reduceBEq, Nat.reduceAdd, Nat.reduceMul, Nat.reduceSub, Nat.reduceLeDiff, Nat.reduceLT, Nat.reduceEqDiff, Int.reduceEq, Int.reduceBEq, Int.reduceBNe, Int.reduceLT, Int.reduceLE] at c3 c5 c8 c11 c46
    obtain ⟨used, late, acc, v, h12, h13, h11, hown, h8, hal, hul, hJ⟩ := hJ
    change _ = PV.ad (8, 0) 1 0 at c8
    change _ = PV.ad (11, 0) 1 0 at c11
    have hvo := hown.one
    rw [hd] at hJ
    have hdr : decide ((used : Int) < draws.length) = true → draws[used]? = some (draws.getD used 0) := fun h => by
      have : used < draws.length := by simpa using h
      simp [this]
    have hdr0 : decide ((used : Int) < draws.length) = false → draws.getD used 0 = 0 := fun h => by
      have : draws.length ≤ used := by simpa using h
      simp [this]
    have hev : x.any = false → x.expr.coefs.length ≤ s.vals.length := fun h => by
      have := (hg.flow.all y (List.mem_of_getElem? hx0)).upd x (List.mem_of_getElem? hx)
      simp only [updB, h, Bool.false_eq_true, if_false] at this
      have := right_len this
      have := hg.vals
      omega
    repeat' (first
      | with_reducible refine cdK_splitN (fun h => ?_) (fun h => ?_)
      | with_reducible refine gdK_splitTN (fun h => ?_) (fun h => ?_)
      | with_reducible refine gdK_splitFN (fun h => ?_) (fun h => ?_)
      | refine cdK_split (fun h => ?_) (fun h => ?_)
      | refine gdK_splitT (fun h => ?_) (fun h => ?_)
      | refine gdK_splitF (fun h => ?_) (fun h => ?_)
      | refine clK_mk (word_d _) rfl ?_
      | refine clK_mk (refEval_d x.expr s.vnn s.vals (hev (by assumption))) rfl ?_
      | simp only [go_sem, Nat.reduceBEq, Nat.reduceAdd, Nat.reduceMul, Nat.reduceSub, Nat.reduceLeDiff, Nat.reduceLT, Nat.reduceEqDiff, Int.reduceEq, Int.reduceBEq, Int.reduceBNe, Int.reduceLT, Int.reduceLE, *, wrap_succ (Nat.lt_of_le_of_lt hul (Nat.lt_of_lt_of_le hk (by omega)))])
    try any_goals (refine congrArg some ?_; first | rfl | (simp only [go_sem, Nat.reduceBEq, Nat.reduceAdd, Nat.reduceMul, Nat.reduceSub, Nat.reduceLeDiff, Nat.reduceLT, Nat.reduceEqDiff, Int.reduceEq, Int.reduceBEq, Int.reduceBNe, Int.reduceLT, Int.reduceLE, stepTr, stepOf, stepGo, zeroS, State.tr, *]; done) | (simp only [go_sem, Nat.reduceBEq, Nat.reduceAdd, Nat.reduceMul, Nat.reduceSub, Nat.reduceLeDiff, Nat.reduceLT, Nat.reduceEqDiff, Int.reduceEq, Int.reduceBEq, Int.reduceBNe, Int.reduceLT, Int.reduceLE, stepTr, stepOf, stepGo, zeroS, State.tr, *]; rfl) | (simp_all [stepTr, stepOf, stepGo, zeroS, State.tr]; done))
    all_goals
      refine hpK_append (hown.frame (by simp only [go_sem, Nat.reduceBEq, Nat.reduceAdd, Nat.reduceMul, Nat.reduceSub, Nat.reduceLeDiff, Nat.reduceLT, Nat.reduceEqDiff, Int.reduceEq, Int.reduceBEq, Int.reduceBNe, Int.reduceLT, Int.reduceLE])) rfl (by kernel_rfl) (by kernel_rfl) (by kernel_rfl) (by kernel_rfl) rfl (by kernel_rfl) (ok_int _ _) (by simp; omega) (fun v' h' ho hf => ?_)
      have ho1 := ho.one
      have e11 := hget_site (id := (11, 0)) (hf 11 rfl)
      have e8 := hget_site (id := (8, 0)) (hf 8 rfl)
      simp only [go_sem, Nat.reduceBEq, Nat.reduceAdd, Nat.reduceMul, Nat.reduceSub, Nat.reduceLeDiff, Nat.reduceLT, Nat.reduceEqDiff, Int.reduceEq, Int.reduceBEq, Int.reduceBNe, Int.reduceLT, Int.reduceLE, h11] at e11
      simp only [go_sem, Nat.reduceBEq, Nat.reduceAdd, Nat.reduceMul, Nat.reduceSub, Nat.reduceLeDiff, Nat.reduceLT, Nat.reduceEqDiff, Int.reduceEq, Int.reduceBEq, Int.reduceBNe, Int.reduceLT, Int.reduceLE, h8] at e8
      repeat' (first
        | with_reducible refine cdK_splitN (fun h => ?_) (fun h => ?_)
        | with_reducible refine gdK_splitTN (fun h => ?_) (fun h => ?_)
        | with_reducible refine gdK_splitFN (fun h => ?_) (fun h => ?_)
        | refine cdK_split (fun h => ?_) (fun h => ?_)
        | refine gdK_splitT (fun h => ?_) (fun h => ?_)
        | refine gdK_splitF (fun h => ?_) (fun h => ?_)
        | simp only [go_sem, Nat.reduceBEq, Nat.reduceAdd, Nat.reduceMul, Nat.reduceSub, Nat.reduceLeDiff, Nat.reduceLT, Nat.reduceEqDiff, Int.reduceEq, Int.reduceBEq, Int.reduceBNe, Int.reduceLT, Int.reduceLE, *])
      refine hG _ ⟨?_, ?_, _, v', ?_, ?_, ?_, ho.snoc.frame (by simp only [go_sem, Nat.reduceBEq, Nat.reduceAdd, Nat.reduceMul, Nat.reduceSub, Nat.reduceLeDiff, Nat.reduceLT, Nat.reduceEqDiff, Int.reduceEq, Int.reduceBEq, Int.reduceBNe, Int.reduceLT, Int.reduceLE]), ?_, by simp; omega, ?_, ?_⟩
      rotate_left 2
      · first | exact h12 | rfl
      · first | exact h13 | rfl
      · simp only [go_sem, Nat.reduceBEq, Nat.reduceAdd, Nat.reduceMul, Nat.reduceSub, Nat.reduceLeDiff, Nat.reduceLT, Nat.reduceEqDiff, Int.reduceEq, Int.reduceBEq, Int.reduceBNe, Int.reduceLT, Int.reduceLE, e11]
      · simp only [go_sem, Nat.reduceBEq, Nat.reduceAdd, Nat.reduceMul, Nat.reduceSub, Nat.reduceLeDiff, Nat.reduceLT, Nat.reduceEqDiff, Int.reduceEq, Int.reduceBEq, Int.reduceBNe, Int.reduceLT, Int.reduceLE, e8]
      · omega
      · simp only [go_sem, Nat.reduceBEq, Nat.reduceAdd, Nat.reduceMul, Nat.reduceSub, Nat.reduceLeDiff, Nat.reduceLT, Nat.reduceEqDiff, Int.reduceEq, Int.reduceBEq, Int.reduceBNe, Int.reduceLT, Int.reduceLE, stepGo, *]
  · have c8 := hfr 8 (by kernel_rfl)
    have c11 := hfr 11 (by kernel_rfl)
    clear hfr
    simp only [go_sem, Nat.reduceBEq, Nat.reduceAdd, Nat.reduceMul, Nat.reduceSub, Nat.reduceLeDiff, Nat.reduceLT, Nat.reduceEqDiff, Int.reduceEq, Int.reduceBEq, Int.reduceBNe, Int.reduceLT, Int.reduceLE] at c8 c11
    obtain ⟨used, late, acc, v, h12, h13, h11, hown, h8, hal, hul, hJ⟩ := hJ
    change _ = PV.ad (8, 0) 1 0 at c8
    change _ = PV.ad (11, 0) 1 0 at c11
    have hvo := hown.one
    have hdep := (hown.frame (h' := hset s'.hp (8, 0) ⟨[.t (i64 y.to_), v], 2, 1, tState, true, true⟩) (by simp only [go_sem, Nat.reduceBEq, Nat.reduceAdd, Nat.reduceMul, Nat.reduceSub, Nat.reduceLeDiff, Nat.reduceLT, Nat.reduceEqDiff, Int.reduceEq, Int.reduceBEq, Int.reduceBNe, Int.reduceLT, Int.reduceLE])).toTr 4
    rw [List.drop_length, stepGo] at hJ
    repeat' (first
      | with_reducible refine cdK_splitN (fun h => ?_) (fun h => ?_)
      | with_reducible refine gdK_splitTN (fun h => ?_) (fun h => ?_)
      | with_reducible refine gdK_splitFN (fun h => ?_) (fun h => ?_)
      | refine cdK_split (fun h => ?_) (fun h => ?_)
      | refine gdK_splitT (fun h => ?_) (fun h => ?_)
      | refine gdK_splitF (fun h => ?_) (fun h => ?_)
      | simp only [go_sem, Nat.reduceBEq, Nat.reduceAdd, Nat.reduceMul, Nat.reduceSub, Nat.reduceLeDiff, Nat.reduceLT, Nat.reduceEqDiff, Int.reduceEq, Int.reduceBEq, Int.reduceBNe, Int.reduceLT, Int.reduceLE, *])
    try any_goals (refine congrArg some ?_; first | rfl | (simp only [go_sem, Nat.reduceBEq, Nat.reduceAdd, Nat.reduceMul, Nat.reduceSub, Nat.reduceLeDiff, Nat.reduceLT, Nat.reduceEqDiff, Int.reduceEq, Int.reduceBEq, Int.reduceBNe, Int.reduceLT, Int.reduceLE, stepTr, stepOf, zeroS, *]; done) | (simp only [go_sem, Nat.reduceBEq, Nat.reduceAdd, Nat.reduceMul, Nat.reduceSub, Nat.reduceLeDiff, Nat.reduceLT, Nat.reduceEqDiff, Int.reduceEq, Int.reduceBEq, Int.reduceBNe, Int.reduceLT, Int.reduceLE, stepTr, stepOf, zeroS, *]; rfl) | (simp_all [stepTr, stepOf, zeroS]; done))

theorem wf_int {nn : Bool} {l : List Int} (h : (Tr.sl nn (ints l)).wf = true) : nn = false → l = [] := by
  intro h1; subst h1; simp [Tr.wf] at h; exact h.1
theorem enters (g : FuncId) (h : (match Try.prog.funcs[g]? with | some fn => !(fn.name == "runtime.NumGoroutine") && !fn.body.isNone | none => false) = true) : Enters Try.prog g := by
  cases hf : Try.prog.funcs[g]? with
  | none => rw [hf] at h; cases h
  | some fn => rw [hf] at h; simp only [Bool.and_eq_true, Bool.not_eq_true'] at h; exact ⟨fn, hf, h.1, h.2⟩
theorem cloneInts_d (nn : Bool) (l : List Int) (hlen : l.length ≤ 1048576) : DCall Try.prog 112 [.sl nn (ints l)] (.sl nn (ints l)) := by
  refine dcall_wf (enters _ (by kernel_rfl)) fun hw => ?_
  have hnil := wf_int (nn := nn) (l := l) (by simpa [wfL] using hw)
  refine dcall_mk orders Try.func112 rfl (by kernel_rfl) (fun d => d == 5 || d == 7) (by kernel_rfl) rfl (fun hs => ?_)
  repeat' (first
    | with_reducible refine cdK_splitN (fun h => ?_) (fun h => ?_)
    | with_reducible refine gdK_splitTN (fun h => ?_) (fun h => ?_)
    | with_reducible refine gdK_splitFN (fun h => ?_) (fun h => ?_)
    | refine cdK_split (fun h => ?_) (fun h => ?_)
    | refine gdK_splitT (fun h => ?_) (fun h => ?_)
    | refine gdK_splitF (fun h => ?_) (fun h => ?_)
    | simp only [go_sem, Nat.reduceBEq, Nat.reduceAdd, Nat.reduceMul, Nat.reduceSub, Nat.reduceLeDiff, Nat.reduceLT, Nat.reduceEqDiff, Int.reduceEq, Int.reduceBEq, Int.reduceBNe, Int.reduceLT, Int.reduceLE, *])
  · refine hpK_append_any (Own.fresh (l := []) (by simp)) (by kernel_rfl) (by kernel_rfl) (by kernel_rfl) rfl (by kernel_rfl) (ok_ints _ _) (by simp; omega) (fun v' h' ho hf => ?_)
    have hdep := ho.dep
    repeat' (first
      | with_reducible refine cdK_splitN (fun h => ?_) (fun h => ?_)
      | with_reducible refine gdK_splitTN (fun h => ?_) (fun h => ?_)
      | with_reducible refine gdK_splitFN (fun h => ?_) (fun h => ?_)
      | refine cdK_split (fun h => ?_) (fun h => ?_)
      | refine gdK_splitT (fun h => ?_) (fun h => ?_)
      | refine gdK_splitF (fun h => ?_) (fun h => ?_)
      | simp only [go_sem, Nat.reduceBEq, Nat.reduceAdd, Nat.reduceMul, Nat.reduceSub, Nat.reduceLeDiff, Nat.reduceLT, Nat.reduceEqDiff, Int.reduceEq, Int.reduceBEq, Int.reduceBNe, Int.reduceLT, Int.reduceLE, *])
theorem own_d (a : State) (hlen : a.vals.length ≤ 1048576) : DCall Try.prog 81 [a.tr] a.tr := by
  refine dcall_mk orders Try.func81 rfl (by kernel_rfl) (fun d => d == 2) (by kernel_rfl) rfl (fun hs => ?_)
  repeat' (first
    | with_reducible refine cdK_splitN (fun h => ?_) (fun h => ?_)
    | with_reducible refine gdK_splitTN (fun h => ?_) (fun h => ?_)
    | with_reducible refine gdK_splitFN (fun h => ?_) (fun h => ?_)
    | refine cdK_split (fun h => ?_) (fun h => ?_)
    | refine gdK_splitT (fun h => ?_) (fun h => ?_)
    | refine gdK_splitF (fun h => ?_) (fun h => ?_)
    | refine clK_mk (cloneInts_d a.vnn a.vals hlen) rfl ?_
    | simp only [go_sem, Nat.reduceBEq, Nat.reduceAdd, Nat.reduceMul, Nat.reduceSub, Nat.reduceLeDiff, Nat.reduceLT, Nat.reduceEqDiff, Int.reduceEq, Int.reduceBEq, Int.reduceBNe, Int.reduceLT, Int.reduceLE, *])

/-! the program's own step -/
def do1 (draws : List Int) : List Upd → Nat → List Int → Option (List Int × Nat)
  | [], n, acc => some (acc, n)
  | u :: r, n, acc => if u.any then (if wordB (draws.getD n 0) then do1 draws r (n + 1) (acc ++ [draws.getD n 0]) else none) else do1 draws r n (acc ++ [0])
def do2 (s : State) : List Upd → List Int → List Int
  | u :: r, v :: q => (if u.any then v else evalR u.expr s.vals) :: do2 s r q
  | _, _ => []
def doR (s : State) (draws : List Int) (y : Trans) : State × Nat × Int := match do1 draws y.next 0 [] with
  | none => (zeroS, 0, 2)
  | some q => if (do2 s y.next q.1).all wordB then (⟨y.to_, true, do2 s y.next q.1⟩, q.2, 0) else (zeroS, 0, 3)
theorem take_set_succ {α : Type} (l : List α) (k : Nat) (a : α) (hk : k < l.length) : (l.set k a).take (k + 1) = l.take k ++ [a] := by
  rw [List.take_add_one, List.getElem?_set_self hk, List.take_set_of_le (Nat.le_refl _)]; rfl
theorem drop_rest {l : List Int} {n k : Nat} (h : l.drop k = List.replicate (n - k) 0) : l.drop (k + 1) = List.replicate (n - (k + 1)) 0 := by
  have := congrArg (List.drop 1) h
  rw [List.drop_drop, List.drop_replicate] at this
  rw [this]; congr 1
theorem do_d (y : Trans) (s : State) (dnn : Bool) (draws : List Int) (hn : y.next.length = s.vals.length) (hlen : y.next.length ≤ 1048576) (hu : ∀ u ∈ y.next, u.any = false → u.expr.coefs.length ≤ s.vals.length) :
    DCall Try.prog 85 [y.tr, s.tr, .sl dnn (ints draws)] (stepTr (doR s draws y)) := by
  refine dcall_mk orders Try.func85 rfl (by kernel_rfl) (fun d => d == 6 || d == 9 || d == 12 || d == 14 || d == 20 || d == 36 || d == 37 || d == 43 || d == 65 || d == 66 || d == 68 || d == 73) (by kernel_rfl) rfl (fun hs => ?_)
  simp [sizedL, Tr.sized, Trans.tr] at hs
  have hn1 : y.next.length ≤ s.vals.length := by omega
  have hn2 : s.vals.length ≤ y.next.length := by omega
  clear hn
  repeat' (first
    | with_reducible refine cdK_splitN (fun h => ?_) (fun h => ?_)
    | with_reducible refine gdK_splitTN (fun h => ?_) (fun h => ?_)
    | with_reducible refine gdK_splitFN (fun h => ?_) (fun h => ?_)
    | refine cdK_split (fun h => ?_) (fun h => ?_)
    | refine gdK_splitT (fun h => ?_) (fun h => ?_)
    | refine gdK_splitF (fun h => ?_) (fun h => ?_)
    | simp only [go_sem, Nat.reduceBEq, Nat.reduceAdd, Nat.reduceMul, Nat.reduceSub, Nat.reduceLeDiff, Nat.reduceLT, Nat.reduceEqDiff, Int.reduceEq, Int.reduceBEq, Int.reduceBNe, Int.reduceLT, Int.reduceLE, *])
  refine hpK_if ⟨by omega, by omega⟩ ?_
  repeat' (first
    | with_reducible refine cdK_splitN (fun h => ?_) (fun h => ?_)
    | with_reducible refine gdK_splitTN (fun h => ?_) (fun h => ?_)
    | with_reducible refine gdK_splitFN (fun h => ?_) (fun h => ?_)
    | refine cdK_split (fun h => ?_) (fun h => ?_)
    | refine gdK_splitT (fun h => ?_) (fun h => ?_)
    | refine gdK_splitF (fun h => ?_) (fun h => ?_)
    | simp only [go_sem, Nat.reduceBEq, Nat.reduceAdd, Nat.reduceMul, Nat.reduceSub, Nat.reduceLeDiff, Nat.reduceLT, Nat.reduceEqDiff, Int.reduceEq, Int.reduceBEq, Int.reduceBNe, Int.reduceLT, Int.reduceLE, *])
  refine loop_range y.next (fun k s' => ∃ (used : Nat) (cur : List Int), s'.sl 10 = .t (i64 used) ∧ hget s'.hp (20, 0) = some ⟨(ints cur).map .t, 1, s.vals.length, tI64, false, true⟩ ∧ hget s'.hp (9, 0) = some ⟨[.t (i64 y.to_), .rf (20, 0) s.vals.length], 2, 1, tState, true, true⟩ ∧ hget s'.hp (6, 0) = some ⟨[.t (i64 0), .t (.sl false [])], 2, 1, tState, true, true⟩ ∧ cur.length = s.vals.length ∧ used ≤ k ∧ cur.drop k = List.replicate (s.vals.length - k) 0 ∧ do1 draws y.next 0 [] = do1 draws (y.next.drop k) used (cur.take k)) rfl rfl (by first | assumption | omega) (by kernel_rfl) (fun _ _ _ _ hj => hj) (fun _ _ _ hj => hj) ?_ (fun k x s' hx hd hk hJ hix hfr G hG => ?_) (fun s' hJ hfr => ?_)
  · refine ⟨0, List.replicate s.vals.length 0, rfl, ?_, ?_, ?_, by simp, Nat.le_refl _, rfl, by simp⟩
    · show hget _ _ = _
      rfl
    · show hget _ _ = _
      rfl
    · show hget _ _ = _
      rfl
  · have c2 := hfr 2 (by kernel_rfl)
    have c6 := hfr 6 (by kernel_rfl)
    have c9 := hfr 9 (by kernel_rfl)
    have c23 := hfr 23 (by kernel_rfl)
    clear hfr
    simp only [go_sem, Nat.reduceBEq, Nat.reduceAdd, Nat.reduceMul, Nat.reduceSub, Nat.reduceLeDiff, Nat.reduceLT, Nat.reduceEqDiff, Int.reduceEq, Int.reduceBEq, Int.reduceBNe, Int.reduceLT, Int.reduceLE] at c2 c6 c9 c23
    obtain ⟨used, cur, h10, h20, h9, h6, hcl, hul, hrest, hJ⟩ := hJ
    change _ = PV.ad (6, 0) 1 0 at c6
    change _ = PV.ad (9, 0) 1 0 at c9
    rw [hd] at hJ
    have hdr : decide ((used : Int) < draws.length) = true → draws[used]? = some (draws.getD used 0) := fun h => by
      have : used < draws.length := by simpa using h
      simp [this]
    have hdr0 : decide ((used : Int) < draws.length) = false → draws.getD used 0 = 0 := fun h => by
      have : draws.length ≤ used := by simpa using h
      simp [this]
    have hkn : k < s.vals.length := by omega
    have hkc : k < cur.length := by omega
    have hc0 : cur[k]? = some 0 := by
      have := congrArg (fun l => l[0]?) hrest
      simp only [List.getElem?_drop, Nat.add_zero] at this
      rw [this, List.getElem?_replicate, if_pos (by omega)]
    have hkn1 : k + 1 ≤ s.vals.length := hkn
    repeat' (first
      | with_reducible refine cdK_splitN (fun h => ?_) (fun h => ?_)
      | with_reducible refine gdK_splitTN (fun h => ?_) (fun h => ?_)
      | with_reducible refine gdK_splitFN (fun h => ?_) (fun h => ?_)
      | refine cdK_split (fun h => ?_) (fun h => ?_)
      | refine gdK_splitT (fun h => ?_) (fun h => ?_)
      | refine gdK_splitF (fun h => ?_) (fun h => ?_)
      | refine clK_mk (outside_d _) rfl ?_
      | simp only [go_sem, Nat.reduceBEq, Nat.reduceAdd, Nat.reduceMul, Nat.reduceSub, Nat.reduceLeDiff, Nat.reduceLT, Nat.reduceEqDiff, Int.reduceEq, Int.reduceBEq, Int.reduceBNe, Int.reduceLT, Int.reduceLE, *, wrap_succ (Nat.lt_of_le_of_lt hul (Nat.lt_of_lt_of_le hk (by omega))), List.getElem?_set_self hkc])
    try any_goals (refine congrArg some ?_; first | rfl | (simp only [go_sem, Nat.reduceBEq, Nat.reduceAdd, Nat.reduceMul, Nat.reduceSub, Nat.reduceLeDiff, Nat.reduceLT, Nat.reduceEqDiff, Int.reduceEq, Int.reduceBEq, Int.reduceBNe, Int.reduceLT, Int.reduceLE, stepTr, doR, do1, zeroS, *]; done) | (simp only [go_sem, Nat.reduceBEq, Nat.reduceAdd, Nat.reduceMul, Nat.reduceSub, Nat.reduceLeDiff, Nat.reduceLT, Nat.reduceEqDiff, Int.reduceEq, Int.reduceBEq, Int.reduceBNe, Int.reduceLT, Int.reduceLE, stepTr, doR, do1, zeroS, *]; rfl) | (simp_all [stepTr, doR, do1, zeroS]; done))
    · refine hG _ ⟨used + 1, cur.set k (draws.getD used 0), rfl, ?_, ?_, ?_, by simp [hcl], by omega, ?_, ?_⟩
      · simp only [go_sem, Nat.reduceBEq, Nat.reduceAdd, Nat.reduceMul, Nat.reduceSub, Nat.reduceLeDiff, Nat.reduceLT, Nat.reduceEqDiff, Int.reduceEq, Int.reduceBEq, Int.reduceBNe, Int.reduceLT, Int.reduceLE, h20, List.getElem?_set_self hkc]
      · simp only [go_sem, Nat.reduceBEq, Nat.reduceAdd, Nat.reduceMul, Nat.reduceSub, Nat.reduceLeDiff, Nat.reduceLT, Nat.reduceEqDiff, Int.reduceEq, Int.reduceBEq, Int.reduceBNe, Int.reduceLT, Int.reduceLE, h9]
      · simp only [go_sem, Nat.reduceBEq, Nat.reduceAdd, Nat.reduceMul, Nat.reduceSub, Nat.reduceLeDiff, Nat.reduceLT, Nat.reduceEqDiff, Int.reduceEq, Int.reduceBEq, Int.reduceBNe, Int.reduceLT, Int.reduceLE, h6]
      · rw [List.drop_set_of_lt (by omega)]; exact drop_rest hrest
      · rw [take_set_succ _ _ _ hkc]
        simp only [go_sem, Nat.reduceBEq, Nat.reduceAdd, Nat.reduceMul, Nat.reduceSub, Nat.reduceLeDiff, Nat.reduceLT, Nat.reduceEqDiff, Int.reduceEq, Int.reduceBEq, Int.reduceBNe, Int.reduceLT, Int.reduceLE, hJ, do1, *]
    · refine hG _ ⟨used + 1, cur, rfl, ?_, ?_, ?_, hcl, by omega, drop_rest hrest, ?_⟩
      · simp only [go_sem, Nat.reduceBEq, Nat.reduceAdd, Nat.reduceMul, Nat.reduceSub, Nat.reduceLeDiff, Nat.reduceLT, Nat.reduceEqDiff, Int.reduceEq, Int.reduceBEq, Int.reduceBNe, Int.reduceLT, Int.reduceLE, h20]
      · simp only [go_sem, Nat.reduceBEq, Nat.reduceAdd, Nat.reduceMul, Nat.reduceSub, Nat.reduceLeDiff, Nat.reduceLT, Nat.reduceEqDiff, Int.reduceEq, Int.reduceBEq, Int.reduceBNe, Int.reduceLT, Int.reduceLE, h9]
      · simp only [go_sem, Nat.reduceBEq, Nat.reduceAdd, Nat.reduceMul, Nat.reduceSub, Nat.reduceLeDiff, Nat.reduceLT, Nat.reduceEqDiff, Int.reduceEq, Int.reduceBEq, Int.reduceBNe, Int.reduceLT, Int.reduceLE, h6]
      · rw [List.take_add_one, hc0]
        simp only [go_sem, Nat.reduceBEq, Nat.reduceAdd, Nat.reduceMul, Nat.reduceSub, Nat.reduceLeDiff, Nat.reduceLT, Nat.reduceEqDiff, Int.reduceEq, Int.reduceBEq, Int.reduceBNe, Int.reduceLT, Int.reduceLE, hJ, do1, Option.toList_some, *]
    · refine hG _ ⟨used, cur, h10, ?_, ?_, ?_, hcl, by omega, drop_rest hrest, ?_⟩
      · simp only [go_sem, Nat.reduceBEq, Nat.reduceAdd, Nat.reduceMul, Nat.reduceSub, Nat.reduceLeDiff, Nat.reduceLT, Nat.reduceEqDiff, Int.reduceEq, Int.reduceBEq, Int.reduceBNe, Int.reduceLT, Int.reduceLE, h20]
      · simp only [go_sem, Nat.reduceBEq, Nat.reduceAdd, Nat.reduceMul, Nat.reduceSub, Nat.reduceLeDiff, Nat.reduceLT, Nat.reduceEqDiff, Int.reduceEq, Int.reduceBEq, Int.reduceBNe, Int.reduceLT, Int.reduceLE, h9]
      · simp only [go_sem, Nat.reduceBEq, Nat.reduceAdd, Nat.reduceMul, Nat.reduceSub, Nat.reduceLeDiff, Nat.reduceLT, Nat.reduceEqDiff, Int.reduceEq, Int.reduceBEq, Int.reduceBNe, Int.reduceLT, Int.reduceLE, h6]
      · rw [List.take_add_one, hc0]
        simp only [go_sem, Nat.reduceBEq, Nat.reduceAdd, Nat.reduceMul, Nat.reduceSub, Nat.reduceLeDiff, Nat.reduceLT, Nat.reduceEqDiff, Int.reduceEq, Int.reduceBEq, Int.reduceBNe, Int.reduceLT, Int.reduceLE, hJ, do1, Option.toList_some, *]
  · obtain ⟨used, cur, h10, h20, h9, h6, hcl, hul, hrest, hJ⟩ := hJ
    have c3 := hfr 3 (by kernel_rfl)
    have c4 := hfr 4 (by kernel_rfl)
    have c6 := hfr 6 (by kernel_rfl)
    have c9 := hfr 9 (by kernel_rfl)
    clear hfr
    simp only [go_sem, Nat.reduceBEq, Nat.reduceAdd, Nat.reduceMul, Nat.reduceSub, Nat.reduceLeDiff, Nat.reduceLT, Nat.reduceEqDiff, Int.reduceEq, Int.reduceBEq, Int.reduceBNe, Int.reduceLT, Int.reduceLE] at c3 c4 c6 c9
    change _ = PV.ad (6, 0) 1 0 at c6
    change _ = PV.ad (9, 0) 1 0 at c9
    rw [List.drop_length, do1, List.take_of_length_le (by omega)] at hJ
    have e3 := c3
    have e4 := c4
    have e6 := c6
    have e9 := c9
    have e10 := h10
    repeat' (first
      | with_reducible refine cdK_splitN (fun h => ?_) (fun h => ?_)
      | with_reducible refine gdK_splitTN (fun h => ?_) (fun h => ?_)
      | with_reducible refine gdK_splitFN (fun h => ?_) (fun h => ?_)
      | refine cdK_split (fun h => ?_) (fun h => ?_)
      | refine gdK_splitT (fun h => ?_) (fun h => ?_)
      | refine gdK_splitF (fun h => ?_) (fun h => ?_)
      | simp only [go_sem, Nat.reduceBEq, Nat.reduceAdd, Nat.reduceMul, Nat.reduceSub, Nat.reduceLeDiff, Nat.reduceLT, Nat.reduceEqDiff, Int.reduceEq, Int.reduceBEq, Int.reduceBNe, Int.reduceLT, Int.reduceLE, *])
    refine loop_range y.next (fun k s' => ∃ cur2 : List Int, hget s'.hp (20, 0) = some ⟨(ints cur2).map .t, 1, s.vals.length, tI64, false, true⟩ ∧ hget s'.hp (9, 0) = some ⟨[.t (i64 y.to_), .rf (20, 0) s.vals.length], 2, 1, tState, true, true⟩ ∧ hget s'.hp (6, 0) = some ⟨[.t (i64 0), .t (.sl false [])], 2, 1, tState, true, true⟩ ∧ cur2.length = s.vals.length ∧ cur2.drop k = cur.drop k ∧ do2 s y.next cur = cur2.take k ++ do2 s (y.next.drop k) (cur.drop k)) rfl rfl (by first | assumption | omega) (by kernel_rfl) (fun _ _ _ _ hj => hj) (fun _ _ _ hj => hj) ?_ (fun k x s' hx hd hk hJ hix hfr G hG => ?_) (fun s' hJ hfr => ?_)
    · exact ⟨cur, h20, h9, h6, hcl, rfl, rfl⟩
    · have c4 := hfr 4 (by kernel_rfl)
      have c9 := hfr 9 (by kernel_rfl)
      have c55 := hfr 55 (by kernel_rfl)
      clear hfr
      simp only [go_sem, Nat.reduceBEq, Nat.reduceAdd, Nat.reduceMul, Nat.reduceSub, Nat.reduceLeDiff, Nat.reduceLT, Nat.reduceEqDiff, Int.reduceEq, Int.reduceBEq, Int.reduceBNe, Int.reduceLT, Int.reduceLE] at c4 c9 c55
      obtain ⟨cur2, h20, h9, h6, hcl2, hrest2, hJ2⟩ := hJ
      rw [e4] at c4
      rw [e9] at c9
      have hkn : k < s.vals.length := by omega
      have hkc : k < cur2.length := by omega
      have hkn1 : k + 1 ≤ s.vals.length := hkn
      obtain ⟨v, hv, hdv⟩ := get_of_lt cur k (by omega)
      have hv2 : cur2[k]? = some v := by
        have := congrArg (fun l => l[0]?) hrest2
        simp only [List.getElem?_drop, Nat.add_zero] at this
        rw [this, hv]
      have hrest3 : cur2.drop (k + 1) = cur.drop (k + 1) := by
        have := congrArg (List.drop 1) hrest2
        simpa only [List.drop_drop] using this
      rw [hd, hdv, do2] at hJ2
      repeat' (first
        | with_reducible refine cdK_splitN (fun h => ?_) (fun h => ?_)
        | with_reducible refine gdK_splitTN (fun h => ?_) (fun h => ?_)
        | with_reducible refine gdK_splitFN (fun h => ?_) (fun h => ?_)
        | refine cdK_split (fun h => ?_) (fun h => ?_)
        | refine gdK_splitT (fun h => ?_) (fun h => ?_)
        | refine gdK_splitF (fun h => ?_) (fun h => ?_)
        | refine clK_mk (value_d x.expr s.vnn s.vals (hu x (List.mem_of_getElem? hx) (by assumption))) rfl ?_
        | simp only [go_sem, Nat.reduceBEq, Nat.reduceAdd, Nat.reduceMul, Nat.reduceSub, Nat.reduceLeDiff, Nat.reduceLT, Nat.reduceEqDiff, Int.reduceEq, Int.reduceBEq, Int.reduceBNe, Int.reduceLT, Int.reduceLE, *])
      · refine hG _ ⟨cur2.set k (evalR x.expr s.vals), ?_, ?_, ?_, by simp [hcl2], ?_, ?_⟩
        · simp only [go_sem, Nat.reduceBEq, Nat.reduceAdd, Nat.reduceMul, Nat.reduceSub, Nat.reduceLeDiff, Nat.reduceLT, Nat.reduceEqDiff, Int.reduceEq, Int.reduceBEq, Int.reduceBNe, Int.reduceLT, Int.reduceLE, h20]
        · simp only [go_sem, Nat.reduceBEq, Nat.reduceAdd, Nat.reduceMul, Nat.reduceSub, Nat.reduceLeDiff, Nat.reduceLT, Nat.reduceEqDiff, Int.reduceEq, Int.reduceBEq, Int.reduceBNe, Int.reduceLT, Int.reduceLE, h9]
        · simp only [go_sem, Nat.reduceBEq, Nat.reduceAdd, Nat.reduceMul, Nat.reduceSub, Nat.reduceLeDiff, Nat.reduceLT, Nat.reduceEqDiff, Int.reduceEq, Int.reduceBEq, Int.reduceBNe, Int.reduceLT, Int.reduceLE, h6]
        · rw [List.drop_set_of_lt (by omega)]; exact hrest3
        · rw [take_set_succ _ _ _ hkc, hJ2]
          simp only [h, Bool.false_eq_true, if_false, List.append_assoc, List.cons_append, List.nil_append]
      · refine hG _ ⟨cur2, ?_, ?_, ?_, hcl2, hrest3, ?_⟩
        · simp only [go_sem, Nat.reduceBEq, Nat.reduceAdd, Nat.reduceMul, Nat.reduceSub, Nat.reduceLeDiff, Nat.reduceLT, Nat.reduceEqDiff, Int.reduceEq, Int.reduceBEq, Int.reduceBNe, Int.reduceLT, Int.reduceLE, h20]
        · simp only [go_sem, Nat.reduceBEq, Nat.reduceAdd, Nat.reduceMul, Nat.reduceSub, Nat.reduceLeDiff, Nat.reduceLT, Nat.reduceEqDiff, Int.reduceEq, Int.reduceBEq, Int.reduceBNe, Int.reduceLT, Int.reduceLE, h9]
        · simp only [go_sem, Nat.reduceBEq, Nat.reduceAdd, Nat.reduceMul, Nat.reduceSub, Nat.reduceLeDiff, Nat.reduceLT, Nat.reduceEqDiff, Int.reduceEq, Int.reduceBEq, Int.reduceBNe, Int.reduceLT, Int.reduceLE, h6]
        · rw [List.take_add_one, hv2, hJ2]
          simp only [h, if_true, Option.toList_some, List.append_assoc, List.cons_append, List.nil_append]
    · obtain ⟨cur2, h20, h9, h6, hcl2, hrest2, hJ2⟩ := hJ
      have c6 := hfr 6 (by kernel_rfl)
      have c9 := hfr 9 (by kernel_rfl)
      have c10 := hfr 10 (by kernel_rfl)
      clear hfr
      simp only [go_sem, Nat.reduceBEq, Nat.reduceAdd, Nat.reduceMul, Nat.reduceSub, Nat.reduceLeDiff, Nat.reduceLT, Nat.reduceEqDiff, Int.reduceEq, Int.reduceBEq, Int.reduceBNe, Int.reduceLT, Int.reduceLE] at c6 c9 c10
      rw [e6] at c6
      rw [e9] at c9
      rw [e10] at c10
      rw [List.drop_length, List.take_of_length_le (by omega)] at hJ2
      simp only [do2, List.append_nil] at hJ2
      have hdep := toTr_ints (k := 5) h20
      change toTr s'.hp dep _ = _ at hdep
      have hc := containsInts_d true cur2 41 [] (fun x => !wordB x) (fun x _ => outside_d x)
      rw [any_not] at hc
      repeat' (first
        | with_reducible refine cdK_splitN (fun h => ?_) (fun h => ?_)
        | with_reducible refine gdK_splitTN (fun h => ?_) (fun h => ?_)
        | with_reducible refine gdK_splitFN (fun h => ?_) (fun h => ?_)
        | refine cdK_split (fun h => ?_) (fun h => ?_)
        | refine gdK_splitT (fun h => ?_) (fun h => ?_)
        | refine gdK_splitF (fun h => ?_) (fun h => ?_)
        | refine clK_sc (hc) (by simp only [go_sem, Nat.reduceBEq, Nat.reduceAdd, Nat.reduceMul, Nat.reduceSub, Nat.reduceLeDiff, Nat.reduceLT, Nat.reduceEqDiff, Int.reduceEq, Int.reduceBEq, Int.reduceBNe, Int.reduceLT, Int.reduceLE, *]) rfl ?_
        | simp only [go_sem, Nat.reduceBEq, Nat.reduceAdd, Nat.reduceMul, Nat.reduceSub, Nat.reduceLeDiff, Nat.reduceLT, Nat.reduceEqDiff, Int.reduceEq, Int.reduceBEq, Int.reduceBNe, Int.reduceLT, Int.reduceLE, *])
      · try any_goals (refine congrArg some ?_; first | rfl | (simp only [go_sem, Nat.reduceBEq, Nat.reduceAdd, Nat.reduceMul, Nat.reduceSub, Nat.reduceLeDiff, Nat.reduceLT, Nat.reduceEqDiff, Int.reduceEq, Int.reduceBEq, Int.reduceBNe, Int.reduceLT, Int.reduceLE, stepTr, doR, zeroS, *]; done) | (simp only [go_sem, Nat.reduceBEq, Nat.reduceAdd, Nat.reduceMul, Nat.reduceSub, Nat.reduceLeDiff, Nat.reduceLT, Nat.reduceEqDiff, Int.reduceEq, Int.reduceBEq, Int.reduceBNe, Int.reduceLT, Int.reduceLE, stepTr, doR, zeroS, *]; rfl) | (simp_all [stepTr, doR, zeroS]; done))
      · have hd5 : toTr (hset s'.hp (6, 0) ⟨[.t (i64 y.to_), .rf (20, 0) s.vals.length], 2, 1, tState, true, true⟩) 5 (.rf (20, 0) s.vals.length) = some (.sl true (ints cur2)) := toTr_ints (k := 4) (esz := 1) (e := tI64) (lv := true) (by simp only [go_sem, Nat.reduceBEq, Nat.reduceAdd, Nat.reduceMul, Nat.reduceSub, Nat.reduceLeDiff, Nat.reduceLT, Nat.reduceEqDiff, Int.reduceEq, Int.reduceBEq, Int.reduceBNe, Int.reduceLT, Int.reduceLE, h20])
        rw [hd5]
        simp only [go_sem, Nat.reduceBEq, Nat.reduceAdd, Nat.reduceMul, Nat.reduceSub, Nat.reduceLeDiff, Nat.reduceLT, Nat.reduceEqDiff, Int.reduceEq, Int.reduceBEq, Int.reduceBNe, Int.reduceLT, Int.reduceLE, stepTr, doR, *]

/-! both steps are the same, but for the nil of an empty row -/
theorem do1_acc (draws : List Int) : ∀ (l : List Upd) (n : Nat) (a : List Int), do1 draws l n a = (do1 draws l n []).map (fun q => (a ++ q.1, q.2))
  | [], n, a => by simp [do1]
  | u :: r, n, a => by
    unfold do1
    split
    · split
      · rw [do1_acc draws r (n + 1) (a ++ [draws.getD n 0]), do1_acc draws r (n + 1) ([] ++ [draws.getD n 0])]
        cases do1 draws r (n + 1) [] <;> simp
      · rfl
    · rw [do1_acc draws r n (a ++ [0]), do1_acc draws r n ([] ++ [0])]
      cases do1 draws r n [] <;> simp
theorem do_step (s : State) (draws : List Int) : ∀ (l : List Upd) (n : Nat) (late : Bool) (acc : List Int),
    stepGo s draws l n late acc = (match do1 draws l n [] with
      | none => ([], 0, 2)
      | some q => if (late || !((do2 s l q.1).all wordB)) then ([], 0, 3) else (acc ++ do2 s l q.1, q.2, 0))
  | [], n, late, acc => by
    simp only [stepGo, do1, do2, List.all_nil, Bool.not_true, Bool.or_false, List.append_nil]
  | u :: r, n, late, acc => by
    unfold stepGo do1
    by_cases hu : u.any = true
    · rw [if_pos hu, if_pos hu]
      by_cases hw : wordB (draws.getD n 0) = true
      · rw [if_pos hw, if_pos hw, do_step s draws r (n + 1) late _, do1_acc draws r (n + 1) ([] ++ [draws.getD n 0])]
        cases do1 draws r (n + 1) [] with
        | none => rfl
        | some q => simp only [Option.map_some, List.nil_append, List.cons_append, do2, hu, if_true, List.all_cons, hw, Bool.true_and, List.append_assoc]
      · rw [if_neg hw, if_neg hw]
    · rw [if_neg hu, if_neg hu, do_step s draws r n _ _, do1_acc draws r n ([] ++ [0])]
      cases do1 draws r n [] with
      | none => rfl
      | some q =>
        simp only [Option.map_some, List.nil_append, List.cons_append, do2, hu, if_false, List.all_cons, List.append_assoc, Bool.false_eq_true]
        congr 1
        cases late <;> cases wordB (evalR u.expr s.vals) <;> simp
/-- the state without the nil of an empty row -/
def full (a : State) : State := ⟨a.loc, true, a.vals⟩
theorem doR_stepOf (s : State) (draws : List Int) (y : Trans) : doR s draws y = (if (stepOf y.to_ (stepGo s draws y.next 0 false [])).2.2 = 0 then (full (stepOf y.to_ (stepGo s draws y.next 0 false [])).1, (stepOf y.to_ (stepGo s draws y.next 0 false [])).2) else stepOf y.to_ (stepGo s draws y.next 0 false [])) := by
  rw [do_step, doR]
  cases do1 draws y.next 0 [] with
  | none => rfl
  | some q =>
    simp only [Bool.false_or]
    by_cases hw : (do2 s y.next q.1).all wordB = true
    · simp [hw, stepOf, full]
    · simp [hw, stepOf]

theorem refStep_d (f : Flow) (s : State) (t : Int) (dnn : Bool) (draws : List Int) (hg : Good f s) : DCall Try.prog 25 [f.tr, s.tr, i64 t, .sl dnn (ints draws)] (stepTr (stepR f s t draws)) := by
  unfold stepR
  split
  · exact refStep_out f s t dnn draws (.inl (by assumption))
  · rename_i h0
    obtain ⟨n, rfl⟩ : ∃ n : Nat, t = n := ⟨t.toNat, by omega⟩
    rw [Int.toNat_natCast]
    split
    · rename_i hn
      exact refStep_out f s n dnn draws (.inr (by have := List.getElem?_eq_none_iff.1 hn; omega))
    · rename_i x hx
      split
      · rename_i ho; exact refStep_go f s n x hx dnn draws hg ho
      · rename_i ho; exact refStep_shut f s n x hx dnn draws (fun t ht => hg.okT ht) (by have := hg.flow.len; omega) (by simpa using ho)

def stepX (f : Flow) (s : State) (t : Int) (draws : List Int) : State × Nat × Int :=
  if t < 0 then (zeroS, 0, 8) else match f.trans[t.toNat]? with
  | none => (zeroS, 0, 8)
  | some x => if openB s x then doR s draws x else (zeroS, 0, 9)
theorem step_out (f : Flow) (s : State) (t : Int) (dnn : Bool) (draws : List Int) (ht : t < 0 ∨ t ≥ f.trans.length) : DCall Try.prog 52 [f.tr, s.tr, i64 t, .sl dnn (ints draws)] (stepTr (zeroS, 0, 8)) := by
  refine dcall_mk orders Try.func52 rfl (by kernel_rfl) (fun d => d == 8) (by kernel_rfl) rfl (fun hs => ?_)
  repeat' (first
    | with_reducible refine cdK_splitN (fun h => ?_) (fun h => ?_)
    | with_reducible refine gdK_splitTN (fun h => ?_) (fun h => ?_)
    | with_reducible refine gdK_splitFN (fun h => ?_) (fun h => ?_)
    | refine cdK_split (fun h => ?_) (fun h => ?_)
    | refine gdK_splitT (fun h => ?_) (fun h => ?_)
    | refine gdK_splitF (fun h => ?_) (fun h => ?_)
    | simp only [go_sem, Nat.reduceBEq, Nat.reduceAdd, Nat.reduceMul, Nat.reduceSub, Nat.reduceLeDiff, Nat.reduceLT, Nat.reduceEqDiff, Int.reduceEq, Int.reduceBEq, Int.reduceBNe, Int.reduceLT, Int.reduceLE, *])
  try any_goals (refine congrArg some ?_; first | rfl | (simp only [go_sem, Nat.reduceBEq, Nat.reduceAdd, Nat.reduceMul, Nat.reduceSub, Nat.reduceLeDiff, Nat.reduceLT, Nat.reduceEqDiff, Int.reduceEq, Int.reduceBEq, Int.reduceBNe, Int.reduceLT, Int.reduceLE, stepTr, zeroS, *]; done) | (simp only [go_sem, Nat.reduceBEq, Nat.reduceAdd, Nat.reduceMul, Nat.reduceSub, Nat.reduceLeDiff, Nat.reduceLT, Nat.reduceEqDiff, Int.reduceEq, Int.reduceBEq, Int.reduceBNe, Int.reduceLT, Int.reduceLE, stepTr, zeroS, *]; rfl) | (simp_all [stepTr, zeroS]; done))
  all_goals (exfalso; rename_i h1; simp at h h1; omega)
theorem step_in (f : Flow) (s : State) (n : Nat) (y : Trans) (hx0 : f.trans[n]? = some y) (dnn : Bool) (draws : List Int) (hg : Good f s) : DCall Try.prog 52 [f.tr, s.tr, i64 n, .sl dnn (ints draws)] (stepTr (if openB s y then doR s draws y else (zeroS, 0, 9))) := by
  refine dcall_mk orders Try.func52 rfl (by kernel_rfl) (fun d => d == 8) (by kernel_rfl) rfl (fun hs => ?_)
  have hn : n < f.trans.length := (List.getElem?_eq_some_iff.1 hx0).1
  have d1 : decide ((n : Int) < 0) = false := by simp
  have d2 : decide ((n : Int) ≥ f.trans.length) = false := by simp; omega
  have hy := List.mem_of_getElem? hx0
  have hT := hg.flow.all y hy
  have hv := hg.vals
  have hv2 := hg.flow.vars2
  have hdo := do_d y s dnn draws (by have := hT.next; omega) (by have := hT.next; omega) (fun u hu ha => by
    have := hT.upd u hu
    simp only [updB, ha, Bool.false_eq_true, if_false] at this
    have := right_len this
    omega)
  unfold stepTr at hdo
  clear hv hv2 hT
  repeat' (first
    | with_reducible refine cdK_splitN (fun h => ?_) (fun h => ?_)
    | with_reducible refine gdK_splitTN (fun h => ?_) (fun h => ?_)
    | with_reducible refine gdK_splitFN (fun h => ?_) (fun h => ?_)
    | refine cdK_split (fun h => ?_) (fun h => ?_)
    | refine gdK_splitT (fun h => ?_) (fun h => ?_)
    | refine gdK_splitF (fun h => ?_) (fun h => ?_)
    | refine clK_mk (open_d y s (hg.okT hy)) rfl ?_
    | refine clK_mk (hdo) rfl ?_
    | simp only [go_sem, Nat.reduceBEq, Nat.reduceAdd, Nat.reduceMul, Nat.reduceSub, Nat.reduceLeDiff, Nat.reduceLT, Nat.reduceEqDiff, Int.reduceEq, Int.reduceBEq, Int.reduceBNe, Int.reduceLT, Int.reduceLE, *])
  try any_goals (refine congrArg some ?_; first | rfl | (simp only [go_sem, Nat.reduceBEq, Nat.reduceAdd, Nat.reduceMul, Nat.reduceSub, Nat.reduceLeDiff, Nat.reduceLT, Nat.reduceEqDiff, Int.reduceEq, Int.reduceBEq, Int.reduceBNe, Int.reduceLT, Int.reduceLE, stepTr, zeroS, *]; done) | (simp only [go_sem, Nat.reduceBEq, Nat.reduceAdd, Nat.reduceMul, Nat.reduceSub, Nat.reduceLeDiff, Nat.reduceLT, Nat.reduceEqDiff, Int.reduceEq, Int.reduceBEq, Int.reduceBNe, Int.reduceLT, Int.reduceLE, stepTr, zeroS, *]; rfl) | (simp_all [stepTr, zeroS]; done))
theorem step_d (f : Flow) (s : State) (t : Int) (dnn : Bool) (draws : List Int) (hg : Good f s) : DCall Try.prog 52 [f.tr, s.tr, i64 t, .sl dnn (ints draws)] (stepTr (stepX f s t draws)) := by
  unfold stepX
  split
  · exact step_out f s t dnn draws (.inl (by assumption))
  · rename_i h0
    obtain ⟨n, rfl⟩ : ∃ n : Nat, t = n := ⟨t.toNat, by omega⟩
    rw [Int.toNat_natCast]
    split
    · rename_i hn
      exact step_out f s n dnn draws (.inr (by have := List.getElem?_eq_none_iff.1 hn; omega))
    · rename_i x hx
      exact step_in f s n x hx dnn draws hg
theorem runStep_d (f : Flow) (s : State) (t : Int) (dnn : Bool) (draws : List Int) : DCall Try.prog 23 [f.tr, s.tr, i64 t, .sl dnn (ints draws)] (stepTr (if stateErr f s = 0 then stepX f s t draws else (zeroS, 0, stateErr f s))) := by
  refine dcall_mk orders Try.func23 rfl (by kernel_rfl) (fun d => d == 8) (by kernel_rfl) rfl (fun hs => ?_)
  by_cases he : stateErr f s = 0
  · have hs := step_d f s t dnn draws (good he)
    unfold stepTr at hs ⊢
    rw [he]
    have hr := runCheck_d f s
    rw [he] at hr
    repeat' (first
      | with_reducible refine cdK_splitN (fun h => ?_) (fun h => ?_)
      | with_reducible refine gdK_splitTN (fun h => ?_) (fun h => ?_)
      | with_reducible refine gdK_splitFN (fun h => ?_) (fun h => ?_)
      | refine cdK_split (fun h => ?_) (fun h => ?_)
      | refine gdK_splitT (fun h => ?_) (fun h => ?_)
      | refine gdK_splitF (fun h => ?_) (fun h => ?_)
      | refine clK_mk (hr) rfl ?_
      | refine clK_mk (hs) rfl ?_
      | simp only [go_sem, Nat.reduceBEq, Nat.reduceAdd, Nat.reduceMul, Nat.reduceSub, Nat.reduceLeDiff, Nat.reduceLT, Nat.reduceEqDiff, Int.reduceEq, Int.reduceBEq, Int.reduceBNe, Int.reduceLT, Int.reduceLE, *])
  · have hr := runCheck_d f s
    have hb : (stateErr f s != 0) = true := by simpa using he
    repeat' (first
      | with_reducible refine cdK_splitN (fun h => ?_) (fun h => ?_)
      | with_reducible refine gdK_splitTN (fun h => ?_) (fun h => ?_)
      | with_reducible refine gdK_splitFN (fun h => ?_) (fun h => ?_)
      | refine cdK_split (fun h => ?_) (fun h => ?_)
      | refine gdK_splitT (fun h => ?_) (fun h => ?_)
      | refine gdK_splitF (fun h => ?_) (fun h => ?_)
      | refine clK_mk (hr) rfl ?_
      | simp only [go_sem, Nat.reduceBEq, Nat.reduceAdd, Nat.reduceMul, Nat.reduceSub, Nat.reduceLeDiff, Nat.reduceLT, Nat.reduceEqDiff, Int.reduceEq, Int.reduceBEq, Int.reduceBNe, Int.reduceLT, Int.reduceLE, *])
    try any_goals (refine congrArg some ?_; first | rfl | (simp only [go_sem, Nat.reduceBEq, Nat.reduceAdd, Nat.reduceMul, Nat.reduceSub, Nat.reduceLeDiff, Nat.reduceLT, Nat.reduceEqDiff, Int.reduceEq, Int.reduceBEq, Int.reduceBNe, Int.reduceLT, Int.reduceLE, stepTr, zeroS, *]; done) | (simp only [go_sem, Nat.reduceBEq, Nat.reduceAdd, Nat.reduceMul, Nat.reduceSub, Nat.reduceLeDiff, Nat.reduceLT, Nat.reduceEqDiff, Int.reduceEq, Int.reduceBEq, Int.reduceBNe, Int.reduceLT, Int.reduceLE, stepTr, zeroS, *]; rfl) | (simp_all [stepTr, zeroS]; done))
end Ytajgclnahfmfmaa
end Go.Vm
