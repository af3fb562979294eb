/- Executions: the reference's walks, and that both agree. -/
import Derived.Test.YtajgclnahfmfmaaR4
set_option linter.unusedSimpArgs false
set_option maxRecDepth 10000
namespace Go.Vm
open Go Go.Proofs
namespace Ytajgclnahfmfmaa
open Go.Proofs.Try

theorem stepX_R (f : Flow) (s : State) (t : Int) (draws : List Int) : stepX f s t draws = if (stepR f s t draws).2.2 = 0 then (full (stepR f s t draws).1, (stepR f s t draws).2) else stepR f s t draws := by
  unfold stepX stepR
  split
  · rfl
  · split
    · rfl
    · split
      · rw [doR_stepOf]
      · rfl
theorem stepX_err (f : Flow) (s : State) (t : Int) (draws : List Int) : (stepX f s t draws).2 = (stepR f s t draws).2 := by
  rw [stepX_R]; split <;> rfl
theorem good_full {f : Flow} {s : State} : Good f (full s) ↔ Good f s := ⟨fun h => ⟨h.flow, h.loc1, h.loc2, h.vals, h.word⟩, fun h => ⟨h.flow, h.loc1, h.loc2, h.vals, h.word⟩⟩
theorem good_stepR {f : Flow} {s : State} {t : Int} {draws : List Int} (hg : Good f s) (he : (stepR f s t draws).2.2 = 0) : Good f (stepR f s t draws).1 := by
  have h1 := good_stepX (t := t) (draws := draws) hg (by rw [stepX_err]; exact he)
  rw [stepX_R, if_pos he] at h1
  exact good_full.1 h1

def pickT (f : Flow) (s : State) (p : Int) : Int := (choices f s).getD (pickIx p (choices f s).length).toNat 0
def refFollowGo (f : Flow) : List Int → State → List Int → List State → List Int → List State × List Int × Int
  | [], _, _, S, T => (S, T, 0)
  | p :: r, s, ds, S, T => if (choices f s).length = 0 then (S, T, 0) else
      if (stepR f s (pickT f s p) ds).2.2 != 0 then ([], [], (stepR f s (pickT f s p) ds).2.2)
      else refFollowGo f r (stepR f s (pickT f s p) ds).1 (ds.drop (stepR f s (pickT f s p) ds).2.1) (S ++ [(stepR f s (pickT f s p) ds).1]) (T ++ [pickT f s p])
def refFollow (f : Flow) (s : State) (picks draws : List Int) : List State × List Int × Int := if decide ((picks.length : Int) > 4096) then ([], [], 3) else refFollowGo f picks s draws [s] []
theorem refFollow_d (f : Flow) (s : State) (pnn dnn : Bool) (picks draws : List Int) (hg : Good f s) :
    DCall Try.prog 16 [f.tr, s.tr, .sl pnn (ints picks), .sl dnn (ints draws)] (walkTr (refFollow f s picks draws)) := by
  unfold refFollow
  refine dcall_mk orders Try.func16 rfl (by kernel_rfl) (fun d => d == 5 || d == 17 || d == 24 || d == 69 || d == 73) (by kernel_rfl) rfl (fun hs => ?_)
  by_cases hp : picks.length ≤ 4096
  case neg =>
    have hb : decide ((picks.length : Int) > 4096) = true := by simp; omega
    rw [hb]
    repeat' (first
      | with_reducible refine cdK_splitN (fun h => ?_) (fun h => ?_)
      | with_reducible refine gdK_splitTN (fun h => ?_) (fun h => ?_)
      | with_reducible refine gdK_splitFN (fun h => ?_) (fun h => ?_)
      | refine cdK_split (fun h => ?_) (fun h => ?_)
      | refine gdK_splitT (fun h => ?_) (fun h => ?_)
      | refine gdK_splitF (fun h => ?_) (fun h => ?_)
      | simp only [go_sem, Nat.reduceBEq, Nat.reduceAdd, Nat.reduceMul, Nat.reduceSub, Nat.reduceLeDiff, Nat.reduceLT, Nat.reduceEqDiff, Int.reduceEq, Int.reduceBEq, Int.reduceBNe, Int.reduceLT, Int.reduceLE, *])
    try any_goals (refine congrArg some ?_; first | rfl | (simp only [go_sem, Nat.reduceBEq, Nat.reduceAdd, Nat.reduceMul, Nat.reduceSub, Nat.reduceLeDiff, Nat.reduceLT, Nat.reduceEqDiff, Int.reduceEq, Int.reduceBEq, Int.reduceBNe, Int.reduceLT, Int.reduceLE, walkTr, List.isEmpty_nil, *]; done) | (simp only [go_sem, Nat.reduceBEq, Nat.reduceAdd, Nat.reduceMul, Nat.reduceSub, Nat.reduceLeDiff, Nat.reduceLT, Nat.reduceEqDiff, Int.reduceEq, Int.reduceBEq, Int.reduceBNe, Int.reduceLT, Int.reduceLE, walkTr, List.isEmpty_nil, *]; rfl) | (simp_all [walkTr, List.isEmpty_nil]; done))
  have hb : decide ((picks.length : Int) > 4096) = false := by simp; omega
  rw [hb]
  generalize hR : (if false = true then ([], [], 3) else refFollowGo f picks s draws [s] []) = R
  rw [if_neg (by simp)] at hR
  repeat' (first
    | with_reducible refine cdK_splitN (fun h => ?_) (fun h => ?_)
    | with_reducible refine gdK_splitTN (fun h => ?_) (fun h => ?_)
    | with_reducible refine gdK_splitFN (fun h => ?_) (fun h => ?_)
    | refine cdK_split (fun h => ?_) (fun h => ?_)
    | refine gdK_splitT (fun h => ?_) (fun h => ?_)
    | refine gdK_splitF (fun h => ?_) (fun h => ?_)
    | simp only [go_sem, Nat.reduceBEq, Nat.reduceAdd, Nat.reduceMul, Nat.reduceSub, Nat.reduceLeDiff, Nat.reduceLT, Nat.reduceEqDiff, Int.reduceEq, Int.reduceBEq, Int.reduceBNe, Int.reduceLT, Int.reduceLE, *])
  refine loop_range picks (fun k s' => ∃ (st : State) (ds : List Int) (S : List State) (T : List Int) (vS vT : PV), s'.sl 3 = .t (.sl dnn (ints ds)) ∧ hget s'.hp (5, 0) = some ⟨[.t (i64 st.loc), .t (.sl st.vnn (ints st.vals))], 2, 1, tState, true, true⟩ ∧ s'.sl 11 = vS ∧ Own s'.hp 24 tState 2 true vS true (states S) ∧ s'.sl 12 = vT ∧ Own s'.hp 73 tInt 1 false vT (!T.isEmpty) (ints T) ∧ S.length = k + 1 ∧ T.length = k ∧ Good f st ∧ R = refFollowGo f (picks.drop k) st ds S T) rfl rfl (by first | assumption | omega) (by kernel_rfl) (fun _ _ _ _ hj => hj) (fun _ _ _ hj => hj) ?_ (fun k x s' hx hd hk hJ hix hfr G hG => ?_) (fun s' hJ hfr => ?_)
  · exact ⟨s, draws, [s], [], _, _, rfl, rfl, rfl, Own.fresh (l := states [s]) (ok_states [s]), rfl, Own.nil, rfl, rfl, hg, hR.symm⟩
  · have c4 := hfr 4 (by kernel_rfl)
    have c5 := hfr 5 (by kernel_rfl)
    have c25 := hfr 25 (by kernel_rfl)
    clear hfr
    simp only [go_sem, Nat.reduceBEq, Nat.reduceAdd, Nat.reduceMul, Nat.reduceSub, Nat.reduceLeDiff, Nat.reduceLT, Nat.reduceEqDiff, Int.reduceEq, Int.reduceBEq, Int.reduceBNe, Int.reduceLT, Int.reduceLE] at c4 c5 c25
    obtain ⟨st, ds, S, T, vS, vT, h3, h5, h11, hS, h12, hT, hSl, hTl, hst, hJ⟩ := hJ
    change _ = PV.ad (5, 0) 1 0 at c5
    rw [hd, refFollowGo] at hJ
    have hen := enabled_d f st (fun t ht => hst.okT ht) (by have := hst.flow.len; omega)
    by_cases h0 : (choices f st).length = 0
    · have hl : choices f st = [] := List.eq_nil_of_length_eq_zero h0
      rw [if_pos h0] at hJ
      rw [hl] at hen
      have hb4 : (((0 : Nat) : Int) == 0) = true := rfl
      have hne : (!S.isEmpty) = true := by cases S <;> simp at hSl ⊢
      have hSd := hS.dep
      have hTd := hT.dep
      clear h0
      repeat' (first
        | with_reducible refine cdK_splitN (fun h => ?_) (fun h => ?_)
        | with_reducible refine gdK_splitTN (fun h => ?_) (fun h => ?_)
        | with_reducible refine gdK_splitFN (fun h => ?_) (fun h => ?_)
        | refine cdK_split (fun h => ?_) (fun h => ?_)
        | refine gdK_splitT (fun h => ?_) (fun h => ?_)
        | refine gdK_splitF (fun h => ?_) (fun h => ?_)
        | refine clK_mk (hen) rfl ?_
        | simp only [go_sem, Nat.reduceBEq, Nat.reduceAdd, Nat.reduceMul, Nat.reduceSub, Nat.reduceLeDiff, Nat.reduceLT, Nat.reduceEqDiff, Int.reduceEq, Int.reduceBEq, Int.reduceBNe, Int.reduceLT, Int.reduceLE, *])
      try any_goals (refine congrArg some ?_; first | rfl | (simp only [go_sem, Nat.reduceBEq, Nat.reduceAdd, Nat.reduceMul, Nat.reduceSub, Nat.reduceLeDiff, Nat.reduceLT, Nat.reduceEqDiff, Int.reduceEq, Int.reduceBEq, Int.reduceBNe, Int.reduceLT, Int.reduceLE, walkTr, statesN, intsN, *]; done) | (simp only [go_sem, Nat.reduceBEq, Nat.reduceAdd, Nat.reduceMul, Nat.reduceSub, Nat.reduceLeDiff, Nat.reduceLT, Nat.reduceEqDiff, Int.reduceEq, Int.reduceBEq, Int.reduceBNe, Int.reduceLT, Int.reduceLE, walkTr, statesN, intsN, *]; rfl) | (simp_all [walkTr, statesN, intsN]; done))
    · have hL : 0 < (choices f st).length := by omega
      obtain ⟨hx1, hx2⟩ := pickIx_in x hL
      obtain ⟨v, hv, _⟩ := get_of_lt (choices f st) (pickIx x (choices f st).length).toNat (by omega)
      have hpt : pickT f st x = v := by simp [pickT, hv]
      have hcl : (choices f st).length ≤ 32 := Nat.le_trans (chF_length st f.trans 0) hst.flow.len
      rw [if_neg h0, hpt] at hJ
      have hb2 : (((choices f st).length : Int) == 0) = false := by rw [beq_eq_false_iff_ne]; omega
      have hb3 : ¬ (((choices f st).length : Int) = 0) := by omega
      have hm1 : x.tmod (choices f st).length < (choices f st).length := Int.tmod_lt_of_pos x (by omega)
      have hm2 : -((choices f st).length : Int) < x.tmod (choices f st).length := by
        have h3 : (-x).tmod (choices f st).length < (choices f st).length := Int.tmod_lt_of_pos (-x) (by omega)
        have := Int.neg_tmod x (choices f st).length
        omega
      have hw : w64 (x.tmod (choices f st).length + (choices f st).length) = x.tmod (choices f st).length + (choices f st).length := wrap_i64 (by omega) (by omega)
      have hix2 := pickIx_ref x hL
      have hstep := refStep_d f st v dnn ds hst
      have hgd := good_stepR (t := v) (draws := ds) hst
      unfold stepTr at hstep
      generalize choices f st = l at *
      generalize stepR f st v ds = q at *
      clear h0 hm1 hm2 hcl hpt hL
      have haf := fun n => after_d dnn ds n
      repeat' (first
        | with_reducible refine cdK_splitN (fun h => ?_) (fun h => ?_)
        | with_reducible refine gdK_splitTN (fun h => ?_) (fun h => ?_)
        | with_reducible refine gdK_splitFN (fun h => ?_) (fun h => ?_)
        | refine cdK_split (fun h => ?_) (fun h => ?_)
        | refine gdK_splitT (fun h => ?_) (fun h => ?_)
        | refine gdK_splitF (fun h => ?_) (fun h => ?_)
        | refine clK_mk (hen) rfl ?_
        | refine clK_mk (hstep) rfl ?_
        | refine clK_mk (haf _) rfl ?_
        | simp only [go_sem, Nat.reduceBEq, Nat.reduceAdd, Nat.reduceMul, Nat.reduceSub, Nat.reduceLeDiff, Nat.reduceLT, Nat.reduceEqDiff, Int.reduceEq, Int.reduceBEq, Int.reduceBNe, Int.reduceLT, Int.reduceLE, *])
      try any_goals (refine congrArg some ?_; first | rfl | (simp only [go_sem, Nat.reduceBEq, Nat.reduceAdd, Nat.reduceMul, Nat.reduceSub, Nat.reduceLeDiff, Nat.reduceLT, Nat.reduceEqDiff, Int.reduceEq, Int.reduceBEq, Int.reduceBNe, Int.reduceLT, Int.reduceLE, walkTr, statesN, intsN, List.isEmpty_nil, *]; done) | (simp only [go_sem, Nat.reduceBEq, Nat.reduceAdd, Nat.reduceMul, Nat.reduceSub, Nat.reduceLeDiff, Nat.reduceLT, Nat.reduceEqDiff, Int.reduceEq, Int.reduceBEq, Int.reduceBNe, Int.reduceLT, Int.reduceLE, walkTr, statesN, intsN, List.isEmpty_nil, *]; rfl) | (simp_all [walkTr, statesN, intsN, List.isEmpty_nil]; done))
      have he0 : q.2.2 = 0 := by simpa using h
      have hgq := hgd he0
      rw [h] at hJ
      refine hpK_append_any (hS.frame (by simp only [go_sem, Nat.reduceBEq, Nat.reduceAdd, Nat.reduceMul, Nat.reduceSub, Nat.reduceLeDiff, Nat.reduceLT, Nat.reduceEqDiff, Int.reduceEq, Int.reduceBEq, Int.reduceBNe, Int.reduceLT, Int.reduceLE])) (by kernel_rfl) (by kernel_rfl) (by kernel_rfl) rfl (by kernel_rfl) (ok_agg _ _ rfl) (by simp; omega) (fun v' h' ho hf => ?_)
      repeat' (first
        | with_reducible refine cdK_splitN (fun h => ?_) (fun h => ?_)
        | with_reducible refine gdK_splitTN (fun h => ?_) (fun h => ?_)
        | with_reducible refine gdK_splitFN (fun h => ?_) (fun h => ?_)
        | refine cdK_split (fun h => ?_) (fun h => ?_)
        | refine gdK_splitT (fun h => ?_) (fun h => ?_)
        | refine gdK_splitF (fun h => ?_) (fun h => ?_)
        | simp only [go_sem, Nat.reduceBEq, Nat.reduceAdd, Nat.reduceMul, Nat.reduceSub, Nat.reduceLeDiff, Nat.reduceLT, Nat.reduceEqDiff, Int.reduceEq, Int.reduceBEq, Int.reduceBNe, Int.reduceLT, Int.reduceLE, *])
      have hT2 := hT.frame (h' := h') ((hf 73 rfl).trans (by simp only [go_sem, Nat.reduceBEq, Nat.reduceAdd, Nat.reduceMul, Nat.reduceSub, Nat.reduceLeDiff, Nat.reduceLT, Nat.reduceEqDiff, Int.reduceEq, Int.reduceBEq, Int.reduceBNe, Int.reduceLT, Int.reduceLE]))
      refine hpK_append (hT2) rfl (by kernel_rfl) (by kernel_rfl) (by kernel_rfl) (by kernel_rfl) rfl (by kernel_rfl) (ok_int _ _) (by simp; omega) (fun v' h' ho hf => ?_)
      rename_i v1 h1 ho1 hf1
      have e5 : hget h' (5, 0) = _ := (hget_site (id := (5, 0)) (hf 5 rfl)).trans (hget_site (id := (5, 0)) (hf1 5 rfl))
      repeat' (first
        | with_reducible refine cdK_splitN (fun h => ?_) (fun h => ?_)
        | with_reducible refine gdK_splitTN (fun h => ?_) (fun h => ?_)
        | with_reducible refine gdK_splitFN (fun h => ?_) (fun h => ?_)
        | refine cdK_split (fun h => ?_) (fun h => ?_)
        | refine gdK_splitT (fun h => ?_) (fun h => ?_)
        | refine gdK_splitF (fun h => ?_) (fun h => ?_)
        | simp only [go_sem, Nat.reduceBEq, Nat.reduceAdd, Nat.reduceMul, Nat.reduceSub, Nat.reduceLeDiff, Nat.reduceLT, Nat.reduceEqDiff, Int.reduceEq, Int.reduceBEq, Int.reduceBNe, Int.reduceLT, Int.reduceLE, *])
      refine hG _ ⟨q.1, ds.drop q.2.1, S ++ [q.1], T ++ [v], v1, v', ?_, ?_, ?_, ?_, ?_, ho.snoc, by simp [hSl], by simp [hTl], hgq, hJ⟩
      · rfl
      · rw [e5]; simp only [go_sem, Nat.reduceBEq, Nat.reduceAdd, Nat.reduceMul, Nat.reduceSub, Nat.reduceLeDiff, Nat.reduceLT, Nat.reduceEqDiff, Int.reduceEq, Int.reduceBEq, Int.reduceBNe, Int.reduceLT, Int.reduceLE, h5]
      · rfl
      · have := ho1.frame (hf 24 rfl)
        rw [show states (S ++ [q.1]) = states S ++ [q.1.tr] from by simp]; exact this
      · rfl
  · obtain ⟨st, ds, S, T, vS, vT, h3, h5, h11, hS, h12, hT, hSl, hTl, hst, hJ⟩ := hJ
    rw [List.drop_length, refFollowGo] at hJ
    have hne : (!S.isEmpty) = true := by cases S <;> simp at hSl ⊢
    have hSd := hS.dep
    have hTd := hT.dep
    repeat' (first
      | with_reducible refine cdK_splitN (fun h => ?_) (fun h => ?_)
      | with_reducible refine gdK_splitTN (fun h => ?_) (fun h => ?_)
      | with_reducible refine gdK_splitFN (fun h => ?_) (fun h => ?_)
      | refine cdK_split (fun h => ?_) (fun h => ?_)
      | refine gdK_splitT (fun h => ?_) (fun h => ?_)
      | refine gdK_splitF (fun h => ?_) (fun h => ?_)
      | simp only [go_sem, Nat.reduceBEq, Nat.reduceAdd, Nat.reduceMul, Nat.reduceSub, Nat.reduceLeDiff, Nat.reduceLT, Nat.reduceEqDiff, Int.reduceEq, Int.reduceBEq, Int.reduceBNe, Int.reduceLT, Int.reduceLE, *])
    try any_goals (refine congrArg some ?_; first | rfl | (simp only [go_sem, Nat.reduceBEq, Nat.reduceAdd, Nat.reduceMul, Nat.reduceSub, Nat.reduceLeDiff, Nat.reduceLT, Nat.reduceEqDiff, Int.reduceEq, Int.reduceBEq, Int.reduceBNe, Int.reduceLT, Int.reduceLE, walkTr, statesN, intsN, *]; done) | (simp only [go_sem, Nat.reduceBEq, Nat.reduceAdd, Nat.reduceMul, Nat.reduceSub, Nat.reduceLeDiff, Nat.reduceLT, Nat.reduceEqDiff, Int.reduceEq, Int.reduceBEq, Int.reduceBNe, Int.reduceLT, Int.reduceLE, walkTr, statesN, intsN, *]; rfl) | (simp_all [walkTr, statesN, intsN]; done))

def refTraceGo (f : Flow) : List Int → State → List Int → List State → List State × Int
  | [], _, _, S => (S, 0)
  | t :: r, s, ds, S => if (stepR f s t ds).2.2 != 0 then ([], (stepR f s t ds).2.2) else refTraceGo f r (stepR f s t ds).1 (ds.drop (stepR f s t ds).2.1) (S ++ [(stepR f s t ds).1])
def refTrace (f : Flow) (s : State) (trans draws : List Int) : List State × Int := if decide ((trans.length : Int) > 4096) then ([], 3) else refTraceGo f trans s draws [s]
theorem refTrace_d (f : Flow) (s : State) (pnn dnn : Bool) (trans draws : List Int) (hg : Good f s) :
    DCall Try.prog 29 [f.tr, s.tr, .sl pnn (ints trans), .sl dnn (ints draws)] (.tup [statesN (refTrace f s trans draws).1, i64 (refTrace f s trans draws).2]) := by
  unfold refTrace
  refine dcall_mk orders Try.func29 rfl (by kernel_rfl) (fun d => d == 5 || d == 13 || d == 20 || d == 46) (by kernel_rfl) rfl (fun hs => ?_)
  by_cases hp : trans.length ≤ 4096
  case neg =>
    have hb : decide ((trans.length : Int) > 4096) = true := by simp; omega
    rw [hb]
    repeat' (first
      | with_reducible refine cdK_splitN (fun h => ?_) (fun h => ?_)
      | with_reducible refine gdK_splitTN (fun h => ?_) (fun h => ?_)
      | with_reducible refine gdK_splitFN (fun h => ?_) (fun h => ?_)
      | refine cdK_split (fun h => ?_) (fun h => ?_)
      | refine gdK_splitT (fun h => ?_) (fun h => ?_)
      | refine gdK_splitF (fun h => ?_) (fun h => ?_)
      | simp only [go_sem, Nat.reduceBEq, Nat.reduceAdd, Nat.reduceMul, Nat.reduceSub, Nat.reduceLeDiff, Nat.reduceLT, Nat.reduceEqDiff, Int.reduceEq, Int.reduceBEq, Int.reduceBNe, Int.reduceLT, Int.reduceLE, *])
    try any_goals (refine congrArg some ?_; first | rfl | (simp only [go_sem, Nat.reduceBEq, Nat.reduceAdd, Nat.reduceMul, Nat.reduceSub, Nat.reduceLeDiff, Nat.reduceLT, Nat.reduceEqDiff, Int.reduceEq, Int.reduceBEq, Int.reduceBNe, Int.reduceLT, Int.reduceLE, List.isEmpty_nil, *]; done) | (simp only [go_sem, Nat.reduceBEq, Nat.reduceAdd, Nat.reduceMul, Nat.reduceSub, Nat.reduceLeDiff, Nat.reduceLT, Nat.reduceEqDiff, Int.reduceEq, Int.reduceBEq, Int.reduceBNe, Int.reduceLT, Int.reduceLE, List.isEmpty_nil, *]; rfl) | (simp_all [List.isEmpty_nil]; done))
  have hb : decide ((trans.length : Int) > 4096) = false := by simp; omega
  rw [hb]
  generalize hR : (if false = true then ([], 3) else refTraceGo f trans s draws [s]) = R
  rw [if_neg (by simp)] at hR
  repeat' (first
    | with_reducible refine cdK_splitN (fun h => ?_) (fun h => ?_)
    | with_reducible refine gdK_splitTN (fun h => ?_) (fun h => ?_)
    | with_reducible refine gdK_splitFN (fun h => ?_) (fun h => ?_)
    | refine cdK_split (fun h => ?_) (fun h => ?_)
    | refine gdK_splitT (fun h => ?_) (fun h => ?_)
    | refine gdK_splitF (fun h => ?_) (fun h => ?_)
    | simp only [go_sem, Nat.reduceBEq, Nat.reduceAdd, Nat.reduceMul, Nat.reduceSub, Nat.reduceLeDiff, Nat.reduceLT, Nat.reduceEqDiff, Int.reduceEq, Int.reduceBEq, Int.reduceBNe, Int.reduceLT, Int.reduceLE, *])
  refine loop_range trans (fun k s' => ∃ (st : State) (ds : List Int) (S : List State) (vS : PV), s'.sl 3 = .t (.sl dnn (ints ds)) ∧ hget s'.hp (5, 0) = some ⟨[.t (i64 st.loc), .t (.sl st.vnn (ints st.vals))], 2, 1, tState, true, true⟩ ∧ s'.sl 10 = vS ∧ Own s'.hp 20 tState 2 true vS true (states S) ∧ S.length = k + 1 ∧ Good f st ∧ R = refTraceGo f (trans.drop k) st ds S) rfl rfl (by first | assumption | omega) (by kernel_rfl) (fun _ _ _ _ hj => hj) (fun _ _ _ hj => hj) ?_ (fun k x s' hx hd hk hJ hix hfr G hG => ?_) (fun s' hJ hfr => ?_)
  · exact ⟨s, draws, [s], _, rfl, rfl, rfl, Own.fresh (l := states [s]) (ok_states [s]), rfl, hg, hR.symm⟩
  · have c4 := hfr 4 (by kernel_rfl)
    have c5 := hfr 5 (by kernel_rfl)
    have c21 := hfr 21 (by kernel_rfl)
    clear hfr
    simp only [go_sem, Nat.reduceBEq, Nat.reduceAdd, Nat.reduceMul, Nat.reduceSub, Nat.reduceLeDiff, Nat.reduceLT, Nat.reduceEqDiff, Int.reduceEq, Int.reduceBEq, Int.reduceBNe, Int.reduceLT, Int.reduceLE] at c4 c5 c21
    obtain ⟨st, ds, S, vS, h3, h5, h11, hS, hSl, hst, hJ⟩ := hJ
    change _ = PV.ad (5, 0) 1 0 at c5
    rw [hd, refTraceGo] at hJ
    have hstep := refStep_d f st x dnn ds hst
    have hgd := good_stepR (t := x) (draws := ds) hst
    unfold stepTr at hstep
    generalize stepR f st x ds = q at *
    have haf := fun n => after_d dnn ds n
    repeat' (first
      | with_reducible refine cdK_splitN (fun h => ?_) (fun h => ?_)
      | with_reducible refine gdK_splitTN (fun h => ?_) (fun h => ?_)
      | with_reducible refine gdK_splitFN (fun h => ?_) (fun h => ?_)
      | refine cdK_split (fun h => ?_) (fun h => ?_)
      | refine gdK_splitT (fun h => ?_) (fun h => ?_)
      | refine gdK_splitF (fun h => ?_) (fun h => ?_)
      | refine clK_mk (hstep) rfl ?_
      | refine clK_mk (haf _) rfl ?_
      | simp only [go_sem, Nat.reduceBEq, Nat.reduceAdd, Nat.reduceMul, Nat.reduceSub, Nat.reduceLeDiff, Nat.reduceLT, Nat.reduceEqDiff, Int.reduceEq, Int.reduceBEq, Int.reduceBNe, Int.reduceLT, Int.reduceLE, *])
    try any_goals (refine congrArg some ?_; first | rfl | (simp only [go_sem, Nat.reduceBEq, Nat.reduceAdd, Nat.reduceMul, Nat.reduceSub, Nat.reduceLeDiff, Nat.reduceLT, Nat.reduceEqDiff, Int.reduceEq, Int.reduceBEq, Int.reduceBNe, Int.reduceLT, Int.reduceLE, statesN, intsN, List.isEmpty_nil, *]; done) | (simp only [go_sem, Nat.reduceBEq, Nat.reduceAdd, Nat.reduceMul, Nat.reduceSub, Nat.reduceLeDiff, Nat.reduceLT, Nat.reduceEqDiff, Int.reduceEq, Int.reduceBEq, Int.reduceBNe, Int.reduceLT, Int.reduceLE, statesN, intsN, List.isEmpty_nil, *]; rfl) | (simp_all [statesN, intsN, List.isEmpty_nil]; done))
    have he0 : q.2.2 = 0 := by simpa using h
    have hgq := hgd he0
    rw [h] at hJ
    refine hpK_append_any (hS.frame (by simp only [go_sem, Nat.reduceBEq, Nat.reduceAdd, Nat.reduceMul, Nat.reduceSub, Nat.reduceLeDiff, Nat.reduceLT, Nat.reduceEqDiff, Int.reduceEq, Int.reduceBEq, Int.reduceBNe, Int.reduceLT, Int.reduceLE])) (by kernel_rfl) (by kernel_rfl) (by kernel_rfl) rfl (by kernel_rfl) (ok_agg _ _ rfl) (by simp; omega) (fun v' h' ho hf => ?_)
    have e5 : hget h' (5, 0) = _ := hget_site (id := (5, 0)) (hf 5 rfl)
    repeat' (first
      | with_reducible refine cdK_splitN (fun h => ?_) (fun h => ?_)
      | with_reducible refine gdK_splitTN (fun h => ?_) (fun h => ?_)
      | with_reducible refine gdK_splitFN (fun h => ?_) (fun h => ?_)
      | refine cdK_split (fun h => ?_) (fun h => ?_)
      | refine gdK_splitT (fun h => ?_) (fun h => ?_)
      | refine gdK_splitF (fun h => ?_) (fun h => ?_)
      | simp only [go_sem, Nat.reduceBEq, Nat.reduceAdd, Nat.reduceMul, Nat.reduceSub, Nat.reduceLeDiff, Nat.reduceLT, Nat.reduceEqDiff, Int.reduceEq, Int.reduceBEq, Int.reduceBNe, Int.reduceLT, Int.reduceLE, *])
    refine hG _ ⟨q.1, ds.drop q.2.1, S ++ [q.1], v', ?_, ?_, ?_, ?_, by simp [hSl], hgq, hJ⟩
    · rfl
    · rw [e5]; simp only [go_sem, Nat.reduceBEq, Nat.reduceAdd, Nat.reduceMul, Nat.reduceSub, Nat.reduceLeDiff, Nat.reduceLT, Nat.reduceEqDiff, Int.reduceEq, Int.reduceBEq, Int.reduceBNe, Int.reduceLT, Int.reduceLE, h5]
    · rfl
    · rw [show states (S ++ [q.1]) = states S ++ [q.1.tr] from by simp]; exact ho
  · obtain ⟨st, ds, S, vS, h3, h5, h11, hS, hSl, hst, hJ⟩ := hJ
    rw [List.drop_length, refTraceGo] at hJ
    have hne : (!S.isEmpty) = true := by cases S <;> simp at hSl ⊢
    have hSd := hS.dep
    repeat' (first
      | with_reducible refine cdK_splitN (fun h => ?_) (fun h => ?_)
      | with_reducible refine gdK_splitTN (fun h => ?_) (fun h => ?_)
      | with_reducible refine gdK_splitFN (fun h => ?_) (fun h => ?_)
      | refine cdK_split (fun h => ?_) (fun h => ?_)
      | refine gdK_splitT (fun h => ?_) (fun h => ?_)
      | refine gdK_splitF (fun h => ?_) (fun h => ?_)
      | simp only [go_sem, Nat.reduceBEq, Nat.reduceAdd, Nat.reduceMul, Nat.reduceSub, Nat.reduceLeDiff, Nat.reduceLT, Nat.reduceEqDiff, Int.reduceEq, Int.reduceBEq, Int.reduceBNe, Int.reduceLT, Int.reduceLE, *])
    try any_goals (refine congrArg some ?_; first | rfl | (simp only [go_sem, Nat.reduceBEq, Nat.reduceAdd, Nat.reduceMul, Nat.reduceSub, Nat.reduceLeDiff, Nat.reduceLT, Nat.reduceEqDiff, Int.reduceEq, Int.reduceBEq, Int.reduceBNe, Int.reduceLT, Int.reduceLE, statesN, intsN, *]; done) | (simp only [go_sem, Nat.reduceBEq, Nat.reduceAdd, Nat.reduceMul, Nat.reduceSub, Nat.reduceLeDiff, Nat.reduceLT, Nat.reduceEqDiff, Int.reduceEq, Int.reduceBEq, Int.reduceBNe, Int.reduceLT, Int.reduceLE, statesN, intsN, *]; rfl) | (simp_all [statesN, intsN]; done))
end Ytajgclnahfmfmaa
end Go.Vm
