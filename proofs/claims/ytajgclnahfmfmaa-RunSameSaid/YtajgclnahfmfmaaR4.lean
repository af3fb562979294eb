/- Executions: walks. -/
import Derived.Test.YtajgclnahfmfmaaR3
set_option linter.unusedSimpArgs false
set_option maxRecDepth 10000
namespace Go.Vm
open Go Go.Proofs
namespace Ytajgclnahfmfmaa
open Go.Proofs.Try

attribute [go_sem] Try.results45 Try.results46 Try.results56 Try.results15 Try.results28 Try.results16 Try.results29

theorem do1_length (draws : List Int) : ∀ (l : List Upd) (n : Nat) (a : List Int) (q : List Int × Nat), do1 draws l n a = some q → q.1.length = a.length + l.length
  | [], n, a, q, h => by simp [do1] at h; subst h; simp
  | u :: r, n, a, q, h => by
    unfold do1 at h
    split at h
    · split at h
      · have := do1_length draws r _ _ q h; simp at this ⊢; omega
      · cases h
    · have := do1_length draws r _ _ q h; simp at this ⊢; omega
theorem do2_length (s : State) : ∀ (l : List Upd) (v : List Int), v.length = l.length → (do2 s l v).length = l.length
  | [], v, _ => by cases v <;> rfl
  | u :: r, [], h => by simp at h
  | u :: r, v :: q, h => by simp [do2, do2_length s r q (by simpa using h)]
theorem good_stepX {f : Flow} {s : State} {t : Int} {draws : List Int} (hg : Good f s) (he : (stepX f s t draws).2.2 = 0) : Good f (stepX f s t draws).1 := by
  unfold stepX at he ⊢
  split at he; · cases he
  rename_i h1
  rw [if_neg h1]
  cases hx : f.trans[t.toNat]? with
  | none => rw [hx] at he; cases he
  | some y =>
    rw [hx] at he
    simp only at he ⊢
    split at he
    · rename_i ho
      rw [if_pos ho]
      have hT := hg.flow.all y (List.mem_of_getElem? hx)
      unfold doR at he ⊢
      cases hd : do1 draws y.next 0 [] with
      | none => rw [hd] at he; cases he
      | some q =>
        rw [hd] at he
        simp only at he ⊢
        split at he
        · rename_i hw
          rw [if_pos hw]
          have h2 := do1_length draws y.next 0 [] q hd
          have h3 := do2_length s y.next q.1 (by simpa using h2)
          refine ⟨hg.flow, hT.to1, hT.to2, ?_, by simpa using hw⟩
          show ((do2 s y.next q.1).length : Int) = f.vars
          rw [h3]; exact hT.next
        · cases he
    · cases he

/-- an execution: c chooses the transition of the i-th step, or none -/
def walkGo (f : Flow) (c : Nat → State → Int × Bool) : Nat → Nat → State → List Int → List State → List Int → List State × List Int × Int
  | 0, _, _, _, _, _ => ([], [], 0)
  | n + 1, i, s, draws, S, T => if (c i s).2 then (if (stepX f s (c i s).1 draws).2.2 != 0 then ([], [], (stepX f s (c i s).1 draws).2.2)
      else walkGo f c n (i + 1) (stepX f s (c i s).1 draws).1 (draws.drop (stepX f s (c i s).1 draws).2.1) (S ++ [(stepX f s (c i s).1 draws).1]) (T ++ [(c i s).1])) else (S, T, 0)
abbrev statesN (l : List State) : Tr := .sl (!l.isEmpty) (states l)
def walkTr (q : List State × List Int × Int) : Tr := .tup [statesN q.1, intsN q.2.1, i64 q.2.2]
theorem ok_states (l : List State) : ∀ x ∈ states l, elemOK true 2 x := by
  intro x hx
  obtain ⟨n, _, rfl⟩ := List.mem_map.1 hx
  exact ⟨fun _ => rfl, (fun h => nomatch h), rfl⟩
theorem drop_trees (l : List Int) (n : Nat) : (List.drop (if (l.length : Int) < n then (l.length : Int) else n).toNat (List.take l.length (ints l))) = ints (l.drop n) := by
  have : (ints l).take l.length = ints l := List.take_of_length_le (by simp)
  rw [this, ← List.map_drop]
  split
  · rw [Int.toNat_natCast, List.drop_length, List.drop_of_length_le (by omega)]
  · rfl
theorem walk_d (f : Flow) (s : State) (dnn : Bool) (draws : List Int) (g : FuncId) (caps : List Tr) (c : Nat → State → Int × Bool) (N : Nat) (hN : N ≤ 4096) (hg : Good f s)
    (hc : ∀ (i : Nat) (st : State), i ≤ N → Good f st → DCall Try.prog g (i64 i :: st.tr :: caps) (.tup [i64 (c i st).1, .bool (c i st).2])) (hend : ∀ st, (c N st).2 = false) :
    DCall Try.prog 45 [f.tr, s.tr, .sl dnn (ints draws), .fn g caps] (walkTr (walkGo f c (N + 1) 0 s draws [s] [])) := by
  refine dcall_mk orders Try.func45 rfl (by kernel_rfl) (fun d => d == 5 || d == 16 || d == 21 || d == 58 || d == 62) (by kernel_rfl) rfl (fun hs => ?_)
  have hv := hg.vals
  have hv2 := hg.flow.vars2
  generalize hR : walkGo f c (N + 1) 0 s draws [s] [] = R
  repeat' (first
    | with_reducible refine cdK_splitN (fun h => ?_) (fun h => ?_)
    | with_reducible refine gdK_splitTN (fun h => ?_) (fun h => ?_)
    | with_reducible refine gdK_splitFN (fun h => ?_) (fun h => ?_)
    | refine cdK_split (fun h => ?_) (fun h => ?_)
    | refine gdK_splitT (fun h => ?_) (fun h => ?_)
    | refine gdK_splitF (fun h => ?_) (fun h => ?_)
    | refine clK_mk (own_d s (by omega)) rfl ?_
    | simp only [go_sem, Nat.reduceBEq, Nat.reduceAdd, Nat.reduceMul, Nat.reduceSub, Nat.reduceLeDiff, Nat.reduceLT, Nat.reduceEqDiff, Int.reduceEq, Int.reduceBEq, Int.reduceBNe, Int.reduceLT, Int.reduceLE, *])
  refine loop_mk (fun m s' => ∃ (i : Nat) (st : State) (ds : List Int) (S : List State) (T : List Int) (vS vT : PV), m = N + 1 - i ∧ i ≤ N ∧ s'.sl 13 = .t (i64 i) ∧ s'.sl 2 = .t (.sl dnn (ints ds)) ∧ hget s'.hp (5, 0) = some ⟨[.t (i64 st.loc), .t (.sl st.vnn (ints st.vals))], 2, 1, tState, true, true⟩ ∧
    s'.sl 11 = vS ∧ Own s'.hp 21 tState 2 true vS true (states S) ∧ s'.sl 12 = vT ∧ Own s'.hp 62 tInt 1 false vT (!T.isEmpty) (ints T) ∧ S.length = i + 1 ∧ T.length = i ∧ Good f st ∧ R = walkGo f c (N + 1 - i) i st ds S T) (N + 1)
    ⟨0, s, draws, [s], [], _, _, rfl, Nat.zero_le _, rfl, rfl, rfl, rfl, Own.fresh (l := states [s]) (ok_states [s]), rfl, Own.nil, rfl, rfl, hg, hR.symm⟩ ?_
  rintro _ s' ⟨i, st, ds, S, T, vS, vT, rfl, hi, h13, h2, h5, h11, hS, h12, hT, hSl, hTl, hst, hJ⟩ hfr G hG
  have c3 := hfr 3 (by kernel_rfl)
  have c4 := hfr 4 (by kernel_rfl)
  have c5 := hfr 5 (by kernel_rfl)
  clear hfr
  simp only [go_sem, Nat.reduceBEq, Nat.reduceAdd, Nat.reduceMul, Nat.reduceSub, Nat.reduceLeDiff, Nat.reduceLT, Nat.reduceEqDiff, Int.reduceEq, Int.reduceBEq, Int.reduceBNe, Int.reduceLT, Int.reduceLE] at c3 c4 c5
  change _ = PV.ad (5, 0) 1 0 at c5
  have e1 : N + 1 - i = (N - i) + 1 := by omega
  rw [e1, walkGo] at hJ
  have hcall := hc i st hi hst
  have hstep := fun t => step_d f st t dnn ds hst
  unfold stepTr at hstep
  have hvs := hst.vals
  clear hv
  repeat' (first
    | with_reducible refine cdK_splitN (fun h => ?_) (fun h => ?_)
    | with_reducible refine gdK_splitTN (fun h => ?_) (fun h => ?_)
    | with_reducible refine gdK_splitFN (fun h => ?_) (fun h => ?_)
    | refine cdK_split (fun h => ?_) (fun h => ?_)
    | refine gdK_splitT (fun h => ?_) (fun h => ?_)
    | refine gdK_splitF (fun h => ?_) (fun h => ?_)
    | refine clK_mk (hcall) rfl ?_
    | refine clK_mk (hstep _) rfl ?_
    | simp only [go_sem, Nat.reduceBEq, Nat.reduceAdd, Nat.reduceMul, Nat.reduceSub, Nat.reduceLeDiff, Nat.reduceLT, Nat.reduceEqDiff, Int.reduceEq, Int.reduceBEq, Int.reduceBNe, Int.reduceLT, Int.reduceLE, *])
  · rw [hS.dep, hT.dep]
    have hne : (!S.isEmpty) = true := by cases S <;> simp at hSl ⊢
    simp only [go_sem, Nat.reduceBEq, Nat.reduceAdd, Nat.reduceMul, Nat.reduceSub, Nat.reduceLeDiff, Nat.reduceLT, Nat.reduceEqDiff, Int.reduceEq, Int.reduceBEq, Int.reduceBNe, Int.reduceLT, Int.reduceLE, walkTr, hJ, h, statesN, intsN, hne]
  · try any_goals (refine congrArg some ?_; first | rfl | (simp only [go_sem, Nat.reduceBEq, Nat.reduceAdd, Nat.reduceMul, Nat.reduceSub, Nat.reduceLeDiff, Nat.reduceLT, Nat.reduceEqDiff, Int.reduceEq, Int.reduceBEq, Int.reduceBNe, Int.reduceLT, Int.reduceLE, walkTr, hJ, *]; done) | (simp only [go_sem, Nat.reduceBEq, Nat.reduceAdd, Nat.reduceMul, Nat.reduceSub, Nat.reduceLeDiff, Nat.reduceLT, Nat.reduceEqDiff, Int.reduceEq, Int.reduceBEq, Int.reduceBNe, Int.reduceLT, Int.reduceLE, walkTr, hJ, *]; rfl) | (simp_all [walkTr, hJ]; done))
  · have he0 : (stepX f st (c i st).1 ds).2.2 = 0 := by simpa using h
    have hgq := good_stepX hst he0
    rename_i hok
    have hJ2 : R = walkGo f c (N - i) (i + 1) (stepX f st (c i st).1 ds).1 (ds.drop (stepX f st (c i st).1 ds).2.1) (S ++ [(stepX f st (c i st).1 ds).1]) (T ++ [(c i st).1]) := by
      rw [hJ, if_pos hok, h]; rfl
    have hiN : i < N := by
      rcases Nat.lt_or_ge i N with h' | h'
      · exact h'
      · have : i = N := by omega
        subst this
        rw [hend] at hok; cases hok
    clear hJ hstep hcall
    generalize stepX f st (c i st).1 ds = q at *
    refine hpK_if (by repeat' (first | omega | apply And.intro | split)) ?_
    have e2 := drop_trees ds q.2.1
    have hqv := hgq.vals
    have hlen : q.1.vals.length ≤ 1048576 := by omega
    repeat' (first
      | with_reducible refine cdK_splitN (fun h => ?_) (fun h => ?_)
      | with_reducible refine gdK_splitTN (fun h => ?_) (fun h => ?_)
      | with_reducible refine gdK_splitFN (fun h => ?_) (fun h => ?_)
      | refine cdK_split (fun h => ?_) (fun h => ?_)
      | refine gdK_splitT (fun h => ?_) (fun h => ?_)
      | refine gdK_splitF (fun h => ?_) (fun h => ?_)
      | refine clK_mk (own_d q.1 hlen) rfl ?_
      | simp only [go_sem, Nat.reduceBEq, Nat.reduceAdd, Nat.reduceMul, Nat.reduceSub, Nat.reduceLeDiff, Nat.reduceLT, Nat.reduceEqDiff, Int.reduceEq, Int.reduceBEq, Int.reduceBNe, Int.reduceLT, Int.reduceLE, *])
    refine hpK_append_any (hS.frame (by simp only [go_sem, Nat.reduceBEq, Nat.reduceAdd, Nat.reduceMul, Nat.reduceSub, Nat.reduceLeDiff, Nat.reduceLT, Nat.reduceEqDiff, Int.reduceEq, Int.reduceBEq, Int.reduceBNe, Int.reduceLT, Int.reduceLE])) (by kernel_rfl) (by kernel_rfl) (by kernel_rfl) rfl (by kernel_rfl) (ok_agg _ _ rfl) (by simp; omega) (fun v' h' ho hf => ?_)
    repeat' (first
      | with_reducible refine cdK_splitN (fun h => ?_) (fun h => ?_)
      | with_reducible refine gdK_splitTN (fun h => ?_) (fun h => ?_)
      | with_reducible refine gdK_splitFN (fun h => ?_) (fun h => ?_)
      | refine cdK_split (fun h => ?_) (fun h => ?_)
      | refine gdK_splitT (fun h => ?_) (fun h => ?_)
      | refine gdK_splitF (fun h => ?_) (fun h => ?_)
      | simp only [go_sem, Nat.reduceBEq, Nat.reduceAdd, Nat.reduceMul, Nat.reduceSub, Nat.reduceLeDiff, Nat.reduceLT, Nat.reduceEqDiff, Int.reduceEq, Int.reduceBEq, Int.reduceBNe, Int.reduceLT, Int.reduceLE, *])
    have hT2 := hT.frame (h' := h') ((hf 62 rfl).trans (by simp only [go_sem, Nat.reduceBEq, Nat.reduceAdd, Nat.reduceMul, Nat.reduceSub, Nat.reduceLeDiff, Nat.reduceLT, Nat.reduceEqDiff, Int.reduceEq, Int.reduceBEq, Int.reduceBNe, Int.reduceLT, Int.reduceLE]))
    refine hpK_append (hT2) rfl (by kernel_rfl) (by kernel_rfl) (by kernel_rfl) (by kernel_rfl) rfl (by kernel_rfl) (ok_int _ _) (by simp; omega) (fun v' h' ho hf => ?_)
    rename_i v1 h1 ho1 hf1
    have e5 : hget h' (5, 0) = _ := (hget_site (id := (5, 0)) (hf 5 rfl)).trans (hget_site (id := (5, 0)) (hf1 5 rfl))
    have hw : i < 9223372036854775807 := by omega
    repeat' (first
      | with_reducible refine cdK_splitN (fun h => ?_) (fun h => ?_)
      | with_reducible refine gdK_splitTN (fun h => ?_) (fun h => ?_)
      | with_reducible refine gdK_splitFN (fun h => ?_) (fun h => ?_)
      | refine cdK_split (fun h => ?_) (fun h => ?_)
      | refine gdK_splitT (fun h => ?_) (fun h => ?_)
      | refine gdK_splitF (fun h => ?_) (fun h => ?_)
      | simp only [go_sem, Nat.reduceBEq, Nat.reduceAdd, Nat.reduceMul, Nat.reduceSub, Nat.reduceLeDiff, Nat.reduceLT, Nat.reduceEqDiff, Int.reduceEq, Int.reduceBEq, Int.reduceBNe, Int.reduceLT, Int.reduceLE, *, wrap_succ hw])
    refine hG (N + 1 - (i + 1)) _ (by omega) ⟨i + 1, q.1, ds.drop q.2.1, S ++ [q.1], T ++ [(c i st).1], v1, v', rfl, hiN, ?_, ?_, ?_, ?_, ?_, ?_, ho.snoc, by simp [hSl], by simp [hTl], hgq, ?_⟩
    · rfl
    · rfl
    · rw [e5]; simp only [go_sem, Nat.reduceBEq, Nat.reduceAdd, Nat.reduceMul, Nat.reduceSub, Nat.reduceLeDiff, Nat.reduceLT, Nat.reduceEqDiff, Int.reduceEq, Int.reduceBEq, Int.reduceBNe, Int.reduceLT, Int.reduceLE, h5]
    · rfl
    · have := ho1.frame (hf 21 rfl)
      rw [show states (S ++ [q.1]) = states S ++ [q.1.tr] from by simp]; exact this
    · rfl
    · rw [hJ2]; congr 1; omega

def pickIx (p : Int) (L : Nat) : Int := if p.tmod L < 0 then p.tmod L + L else p.tmod L
theorem pickIx_in (p : Int) {L : Nat} (hL : 0 < L) : 0 ≤ pickIx p L ∧ pickIx p L < L := by
  have h1 : p.tmod L < L := Int.tmod_lt_of_pos p (by omega)
  have h2 : -(L : Int) < p.tmod L := by
    have := Int.neg_tmod p L
    have h3 : (-p).tmod L < L := Int.tmod_lt_of_pos (-p) (by omega)
    omega
  unfold pickIx; split <;> omega
theorem pickIx_ref (p : Int) {L : Nat} (hL : 0 < L) : (p.tmod L + L).tmod L = pickIx p L := by
  have h1 : p.tmod L < L := Int.tmod_lt_of_pos p (by omega)
  have h2 : -(L : Int) < p.tmod L := by
    have h3 : (-p).tmod L < L := Int.tmod_lt_of_pos (-p) (by omega)
    have := Int.neg_tmod p L
    omega
  unfold pickIx
  split
  · rw [Int.tmod_eq_of_lt (by omega) (by omega)]
  · rw [Int.tmod_eq_emod_of_nonneg (by omega), Int.add_emod_right, Int.emod_eq_of_lt (by omega) (by omega)]
theorem chF_length (s : State) : ∀ (l : List Trans) (k : Nat), (chF s k l).length ≤ l.length
  | [], _ => Nat.le_refl _
  | x :: l, k => by
    have := chF_length s l (k + 1)
    unfold chF; split <;> simp <;> omega
def chooseF (f : Flow) (picks : List Int) (i : Nat) (st : State) : Int × Bool :=
  if i = picks.length then (0, false) else if (choices f st).length = 0 then (0, false) else ((choices f st).getD (pickIx (picks.getD i 0) (choices f st).length).toNat 0, true)
theorem chooseF_d (f : Flow) (pnn : Bool) (picks : List Int) (i : Nat) (st : State) (hi : i ≤ picks.length) (hp : picks.length ≤ 4096) (hg : Good f st) :
    DCall Try.prog 46 [i64 i, st.tr, .ptr f.cs, .ptr [.sl pnn (ints picks)]] (.tup [i64 (chooseF f picks i st).1, .bool (chooseF f picks i st).2]) := by
  have hch := choices_d f st (fun t ht => hg.okT ht) (by have := hg.flow.len; omega)
  unfold chooseF
  have hcl : (choices f st).length ≤ 32 := Nat.le_trans (chF_length st f.trans 0) hg.flow.len
  generalize choices f st = l at *
  by_cases h1 : i = picks.length
  · subst h1
    refine dcall_mk orders Try.func46 rfl (by kernel_rfl) noMu (by kernel_rfl) rfl (fun hs => ?_)
    have hb : ((picks.length : Int) == picks.length) = true := by simp
    repeat' (first
      | with_reducible refine cdK_splitN (fun h => ?_) (fun h => ?_)
      | with_reducible refine gdK_splitTN (fun h => ?_) (fun h => ?_)
      | with_reducible refine gdK_splitFN (fun h => ?_) (fun h => ?_)
      | refine cdK_split (fun h => ?_) (fun h => ?_)
      | refine gdK_splitT (fun h => ?_) (fun h => ?_)
      | refine gdK_splitF (fun h => ?_) (fun h => ?_)
      | refine clK_mk (hch) rfl ?_
      | simp only [go_sem, Nat.reduceBEq, Nat.reduceAdd, Nat.reduceMul, Nat.reduceSub, Nat.reduceLeDiff, Nat.reduceLT, Nat.reduceEqDiff, Int.reduceEq, Int.reduceBEq, Int.reduceBNe, Int.reduceLT, Int.reduceLE, *])
  · by_cases h2 : l.length = 0
    · have hl : l = [] := List.eq_nil_of_length_eq_zero h2
      subst hl
      refine dcall_mk orders Try.func46 rfl (by kernel_rfl) noMu (by kernel_rfl) rfl (fun hs => ?_)
      have hb : ((i : Int) == picks.length) = false := by simp; omega
      have hb4 : (((0 : Nat) : Int) == 0) = true := rfl
      repeat' (first
        | with_reducible refine cdK_splitN (fun h => ?_) (fun h => ?_)
        | with_reducible refine gdK_splitTN (fun h => ?_) (fun h => ?_)
        | with_reducible refine gdK_splitFN (fun h => ?_) (fun h => ?_)
        | refine cdK_split (fun h => ?_) (fun h => ?_)
        | refine gdK_splitT (fun h => ?_) (fun h => ?_)
        | refine gdK_splitF (fun h => ?_) (fun h => ?_)
        | refine clK_mk (hch) rfl ?_
        | simp only [go_sem, Nat.reduceBEq, Nat.reduceAdd, Nat.reduceMul, Nat.reduceSub, Nat.reduceLeDiff, Nat.reduceLT, Nat.reduceEqDiff, Int.reduceEq, Int.reduceBEq, Int.reduceBNe, Int.reduceLT, Int.reduceLE, *])
    · obtain ⟨p, hpk, _⟩ := get_of_lt picks i (by omega)
      have hgd : picks.getD i 0 = p := by simp [hpk]
      have hL : 0 < l.length := by omega
      obtain ⟨hx1, hx2⟩ := pickIx_in p hL
      obtain ⟨v, hv, _⟩ := get_of_lt l (pickIx p l.length).toNat (by omega)
      have hvd : l.getD (pickIx p l.length).toNat 0 = v := by simp [hv]
      rw [if_neg h1, if_neg h2, hgd, hvd]
      have hb : ((i : Int) == picks.length) = false := by simp; omega
      have hb2 : ((l.length : Int) == 0) = false := by rw [beq_eq_false_iff_ne]; omega
      have hb3 : ¬ ((l.length : Int) = 0) := by omega
      clear hgd hvd
      unfold pickIx at hx1 hx2 hv
      refine dcall_mk orders Try.func46 rfl (by kernel_rfl) noMu (by kernel_rfl) rfl (fun hs => ?_)
      by_cases hneg : p.tmod l.length < 0
      · rw [if_pos hneg] at hx1 hx2 hv
        have hw : w64 (p.tmod l.length + l.length) = p.tmod l.length + l.length := wrap_i64 (by omega) (by omega)
        have hd : decide (p.tmod l.length < 0) = true := by simpa using hneg
        repeat' (first
          | with_reducible refine cdK_splitN (fun h => ?_) (fun h => ?_)
          | with_reducible refine gdK_splitTN (fun h => ?_) (fun h => ?_)
          | with_reducible refine gdK_splitFN (fun h => ?_) (fun h => ?_)
          | refine cdK_split (fun h => ?_) (fun h => ?_)
          | refine gdK_splitT (fun h => ?_) (fun h => ?_)
          | refine gdK_splitF (fun h => ?_) (fun h => ?_)
          | refine clK_mk (hch) rfl ?_
          | simp only [go_sem, Nat.reduceBEq, Nat.reduceAdd, Nat.reduceMul, Nat.reduceSub, Nat.reduceLeDiff, Nat.reduceLT, Nat.reduceEqDiff, Int.reduceEq, Int.reduceBEq, Int.reduceBNe, Int.reduceLT, Int.reduceLE, *])
      · rw [if_neg hneg] at hx1 hx2 hv
        have hd : decide (p.tmod l.length < 0) = false := by simpa using hneg
        repeat' (first
          | with_reducible refine cdK_splitN (fun h => ?_) (fun h => ?_)
          | with_reducible refine gdK_splitTN (fun h => ?_) (fun h => ?_)
          | with_reducible refine gdK_splitFN (fun h => ?_) (fun h => ?_)
          | refine cdK_split (fun h => ?_) (fun h => ?_)
          | refine gdK_splitT (fun h => ?_) (fun h => ?_)
          | refine gdK_splitF (fun h => ?_) (fun h => ?_)
          | refine clK_mk (hch) rfl ?_
          | simp only [go_sem, Nat.reduceBEq, Nat.reduceAdd, Nat.reduceMul, Nat.reduceSub, Nat.reduceLeDiff, Nat.reduceLT, Nat.reduceEqDiff, Int.reduceEq, Int.reduceBEq, Int.reduceBNe, Int.reduceLT, Int.reduceLE, *])

def chooseT (trans : List Int) (i : Nat) (_ : State) : Int × Bool := if i = trans.length then (0, false) else (trans.getD i 0, true)
theorem chooseT_d (pnn : Bool) (trans : List Int) (i : Nat) (st : State) (hi : i ≤ trans.length) :
    DCall Try.prog 56 [i64 i, st.tr, .ptr [.sl pnn (ints trans)]] (.tup [i64 (chooseT trans i st).1, .bool (chooseT trans i st).2]) := by
  unfold chooseT
  by_cases h1 : i = trans.length
  · subst h1
    refine dcall_mk orders Try.func56 rfl (by kernel_rfl) noMu (by kernel_rfl) rfl (fun hs => ?_)
    have hb : ((trans.length : Int) == trans.length) = true := by simp
    repeat' (first
      | with_reducible refine cdK_splitN (fun h => ?_) (fun h => ?_)
      | with_reducible refine gdK_splitTN (fun h => ?_) (fun h => ?_)
      | with_reducible refine gdK_splitFN (fun h => ?_) (fun h => ?_)
      | refine cdK_split (fun h => ?_) (fun h => ?_)
      | refine gdK_splitT (fun h => ?_) (fun h => ?_)
      | refine gdK_splitF (fun h => ?_) (fun h => ?_)
      | simp only [go_sem, Nat.reduceBEq, Nat.reduceAdd, Nat.reduceMul, Nat.reduceSub, Nat.reduceLeDiff, Nat.reduceLT, Nat.reduceEqDiff, Int.reduceEq, Int.reduceBEq, Int.reduceBNe, Int.reduceLT, Int.reduceLE, *])
  · obtain ⟨p, hpk, _⟩ := get_of_lt trans i (by omega)
    have hgd : trans.getD i 0 = p := by simp [hpk]
    rw [if_neg h1, hgd]
    have hb : ((i : Int) == trans.length) = false := by rw [beq_eq_false_iff_ne]; omega
    clear hgd
    refine dcall_mk orders Try.func56 rfl (by kernel_rfl) noMu (by kernel_rfl) rfl (fun hs => ?_)
    repeat' (first
      | with_reducible refine cdK_splitN (fun h => ?_) (fun h => ?_)
      | with_reducible refine gdK_splitTN (fun h => ?_) (fun h => ?_)
      | with_reducible refine gdK_splitFN (fun h => ?_) (fun h => ?_)
      | refine cdK_split (fun h => ?_) (fun h => ?_)
      | refine gdK_splitT (fun h => ?_) (fun h => ?_)
      | refine gdK_splitF (fun h => ?_) (fun h => ?_)
      | simp only [go_sem, Nat.reduceBEq, Nat.reduceAdd, Nat.reduceMul, Nat.reduceSub, Nat.reduceLeDiff, Nat.reduceLT, Nat.reduceEqDiff, Int.reduceEq, Int.reduceBEq, Int.reduceBNe, Int.reduceLT, Int.reduceLE, *])

/-! Follow and Trace -/
def followR (f : Flow) (s : State) (picks draws : List Int) : List State × List Int × Int :=
  if stateErr f s != 0 then ([], [], stateErr f s) else if decide ((picks.length : Int) > 4096) then ([], [], 3) else walkGo f (chooseF f picks) (picks.length + 1) 0 s draws [s] []
theorem follow_d (f : Flow) (s : State) (pnn dnn : Bool) (picks draws : List Int) :
    DCall Try.prog 15 [f.tr, s.tr, .sl pnn (ints picks), .sl dnn (ints draws)] (walkTr (followR f s picks draws)) := by
  unfold followR
  have hr := runCheck_d f s
  by_cases he : stateErr f s = 0
  · rw [he] at hr ⊢
    by_cases hp : picks.length ≤ 4096
    · have hg := good he
      have hb : decide ((picks.length : Int) > 4096) = false := by simp; omega
      have hw := walk_d f s dnn draws 46 [.ptr f.cs, .ptr [.sl pnn (ints picks)]] (chooseF f picks) picks.length hp hg (fun i st hi hst => chooseF_d f pnn picks i st hi hp hst) (fun st => by simp [chooseF])
      rw [hb]
      generalize walkGo f (chooseF f picks) (picks.length + 1) 0 s draws [s] [] = R at *
      unfold walkTr at hw
      refine dcall_mk orders Try.func15 rfl (by kernel_rfl) noMu (by kernel_rfl) rfl (fun hs => ?_)
      repeat' (first
        | with_reducible refine cdK_splitN (fun h => ?_) (fun h => ?_)
        | with_reducible refine gdK_splitTN (fun h => ?_) (fun h => ?_)
        | with_reducible refine gdK_splitFN (fun h => ?_) (fun h => ?_)
        | refine cdK_split (fun h => ?_) (fun h => ?_)
        | refine gdK_splitT (fun h => ?_) (fun h => ?_)
        | refine gdK_splitF (fun h => ?_) (fun h => ?_)
        | refine clK_mk (hr) rfl ?_
        | refine clK_mk (hw) rfl ?_
        | simp only [go_sem, Nat.reduceBEq, Nat.reduceAdd, Nat.reduceMul, Nat.reduceSub, Nat.reduceLeDiff, Nat.reduceLT, Nat.reduceEqDiff, Int.reduceEq, Int.reduceBEq, Int.reduceBNe, Int.reduceLT, Int.reduceLE, *])
      try any_goals (refine congrArg some ?_; first | rfl | (simp only [go_sem, Nat.reduceBEq, Nat.reduceAdd, Nat.reduceMul, Nat.reduceSub, Nat.reduceLeDiff, Nat.reduceLT, Nat.reduceEqDiff, Int.reduceEq, Int.reduceBEq, Int.reduceBNe, Int.reduceLT, Int.reduceLE, walkTr, *]; done) | (simp only [go_sem, Nat.reduceBEq, Nat.reduceAdd, Nat.reduceMul, Nat.reduceSub, Nat.reduceLeDiff, Nat.reduceLT, Nat.reduceEqDiff, Int.reduceEq, Int.reduceBEq, Int.reduceBNe, Int.reduceLT, Int.reduceLE, walkTr, *]; rfl) | (simp_all [walkTr]; done))
    · have hb : decide ((picks.length : Int) > 4096) = true := by simp; omega
      rw [hb]
      refine dcall_mk orders Try.func15 rfl (by kernel_rfl) noMu (by kernel_rfl) rfl (fun hs => ?_)
      repeat' (first
        | with_reducible refine cdK_splitN (fun h => ?_) (fun h => ?_)
        | with_reducible refine gdK_splitTN (fun h => ?_) (fun h => ?_)
        | with_reducible refine gdK_splitFN (fun h => ?_) (fun h => ?_)
        | refine cdK_split (fun h => ?_) (fun h => ?_)
        | refine gdK_splitT (fun h => ?_) (fun h => ?_)
        | refine gdK_splitF (fun h => ?_) (fun h => ?_)
        | refine clK_mk (hr) rfl ?_
        | simp only [go_sem, Nat.reduceBEq, Nat.reduceAdd, Nat.reduceMul, Nat.reduceSub, Nat.reduceLeDiff, Nat.reduceLT, Nat.reduceEqDiff, Int.reduceEq, Int.reduceBEq, Int.reduceBNe, Int.reduceLT, Int.reduceLE, *])
      try any_goals (refine congrArg some ?_; first | rfl | (simp only [go_sem, Nat.reduceBEq, Nat.reduceAdd, Nat.reduceMul, Nat.reduceSub, Nat.reduceLeDiff, Nat.reduceLT, Nat.reduceEqDiff, Int.reduceEq, Int.reduceBEq, Int.reduceBNe, Int.reduceLT, Int.reduceLE, walkTr, List.isEmpty_nil, *]; done) | (simp only [go_sem, Nat.reduceBEq, Nat.reduceAdd, Nat.reduceMul, Nat.reduceSub, Nat.reduceLeDiff, Nat.reduceLT, Nat.reduceEqDiff, Int.reduceEq, Int.reduceBEq, Int.reduceBNe, Int.reduceLT, Int.reduceLE, walkTr, List.isEmpty_nil, *]; rfl) | (simp_all [walkTr, List.isEmpty_nil]; done))
  · have hb : (stateErr f s != 0) = true := by simpa using he
    rw [hb]
    refine dcall_mk orders Try.func15 rfl (by kernel_rfl) noMu (by kernel_rfl) rfl (fun hs => ?_)
    repeat' (first
      | with_reducible refine cdK_splitN (fun h => ?_) (fun h => ?_)
      | with_reducible refine gdK_splitTN (fun h => ?_) (fun h => ?_)
      | with_reducible refine gdK_splitFN (fun h => ?_) (fun h => ?_)
      | refine cdK_split (fun h => ?_) (fun h => ?_)
      | refine gdK_splitT (fun h => ?_) (fun h => ?_)
      | refine gdK_splitF (fun h => ?_) (fun h => ?_)
      | refine clK_mk (hr) rfl ?_
      | simp only [go_sem, Nat.reduceBEq, Nat.reduceAdd, Nat.reduceMul, Nat.reduceSub, Nat.reduceLeDiff, Nat.reduceLT, Nat.reduceEqDiff, Int.reduceEq, Int.reduceBEq, Int.reduceBNe, Int.reduceLT, Int.reduceLE, *])
    try any_goals (refine congrArg some ?_; first | rfl | (simp only [go_sem, Nat.reduceBEq, Nat.reduceAdd, Nat.reduceMul, Nat.reduceSub, Nat.reduceLeDiff, Nat.reduceLT, Nat.reduceEqDiff, Int.reduceEq, Int.reduceBEq, Int.reduceBNe, Int.reduceLT, Int.reduceLE, walkTr, List.isEmpty_nil, *]; done) | (simp only [go_sem, Nat.reduceBEq, Nat.reduceAdd, Nat.reduceMul, Nat.reduceSub, Nat.reduceLeDiff, Nat.reduceLT, Nat.reduceEqDiff, Int.reduceEq, Int.reduceBEq, Int.reduceBNe, Int.reduceLT, Int.reduceLE, walkTr, List.isEmpty_nil, *]; rfl) | (simp_all [walkTr, List.isEmpty_nil]; done))
def traceR (f : Flow) (s : State) (trans draws : List Int) : List State × Int :=
  if stateErr f s != 0 then ([], stateErr f s) else if decide ((trans.length : Int) > 4096) then ([], 3) else ((walkGo f (chooseT trans) (trans.length + 1) 0 s draws [s] []).1, (walkGo f (chooseT trans) (trans.length + 1) 0 s draws [s] []).2.2)
theorem trace_d (f : Flow) (s : State) (pnn dnn : Bool) (trans draws : List Int) :
    DCall Try.prog 28 [f.tr, s.tr, .sl pnn (ints trans), .sl dnn (ints draws)] (.tup [statesN (traceR f s trans draws).1, i64 (traceR f s trans draws).2]) := by
  unfold traceR
  have hr := runCheck_d f s
  by_cases he : stateErr f s = 0
  · rw [he] at hr ⊢
    by_cases hp : trans.length ≤ 4096
    · have hg := good he
      have hb : decide ((trans.length : Int) > 4096) = false := by simp; omega
      have hw := walk_d f s dnn draws 56 [.ptr [.sl pnn (ints trans)]] (chooseT trans) trans.length hp hg (fun i st hi hst => chooseT_d pnn trans i st hi) (fun st => by simp [chooseT])
      rw [hb]
      generalize walkGo f (chooseT trans) (trans.length + 1) 0 s draws [s] [] = R at *
      unfold walkTr at hw
      refine dcall_mk orders Try.func28 rfl (by kernel_rfl) noMu (by kernel_rfl) rfl (fun hs => ?_)
      repeat' (first
        | with_reducible refine cdK_splitN (fun h => ?_) (fun h => ?_)
        | with_reducible refine gdK_splitTN (fun h => ?_) (fun h => ?_)
        | with_reducible refine gdK_splitFN (fun h => ?_) (fun h => ?_)
        | refine cdK_split (fun h => ?_) (fun h => ?_)
        | refine gdK_splitT (fun h => ?_) (fun h => ?_)
        | refine gdK_splitF (fun h => ?_) (fun h => ?_)
        | refine clK_mk (hr) rfl ?_
        | refine clK_mk (hw) rfl ?_
        | simp only [go_sem, Nat.reduceBEq, Nat.reduceAdd, Nat.reduceMul, Nat.reduceSub, Nat.reduceLeDiff, Nat.reduceLT, Nat.reduceEqDiff, Int.reduceEq, Int.reduceBEq, Int.reduceBNe, Int.reduceLT, Int.reduceLE, *])
      try any_goals (refine congrArg some ?_; first | rfl | (simp only [go_sem, Nat.reduceBEq, Nat.reduceAdd, Nat.reduceMul, Nat.reduceSub, Nat.reduceLeDiff, Nat.reduceLT, Nat.reduceEqDiff, Int.reduceEq, Int.reduceBEq, Int.reduceBNe, Int.reduceLT, Int.reduceLE, walkTr, *]; done) | (simp only [go_sem, Nat.reduceBEq, Nat.reduceAdd, Nat.reduceMul, Nat.reduceSub, Nat.reduceLeDiff, Nat.reduceLT, Nat.reduceEqDiff, Int.reduceEq, Int.reduceBEq, Int.reduceBNe, Int.reduceLT, Int.reduceLE, walkTr, *]; rfl) | (simp_all [walkTr]; done))
    · have hb : decide ((trans.length : Int) > 4096) = true := by simp; omega
      rw [hb]
      refine dcall_mk orders Try.func28 rfl (by kernel_rfl) noMu (by kernel_rfl) rfl (fun hs => ?_)
      repeat' (first
        | with_reducible refine cdK_splitN (fun h => ?_) (fun h => ?_)
        | with_reducible refine gdK_splitTN (fun h => ?_) (fun h => ?_)
        | with_reducible refine gdK_splitFN (fun h => ?_) (fun h => ?_)
        | refine cdK_split (fun h => ?_) (fun h => ?_)
        | refine gdK_splitT (fun h => ?_) (fun h => ?_)
        | refine gdK_splitF (fun h => ?_) (fun h => ?_)
        | refine clK_mk (hr) rfl ?_
        | simp only [go_sem, Nat.reduceBEq, Nat.reduceAdd, Nat.reduceMul, Nat.reduceSub, Nat.reduceLeDiff, Nat.reduceLT, Nat.reduceEqDiff, Int.reduceEq, Int.reduceBEq, Int.reduceBNe, Int.reduceLT, Int.reduceLE, *])
      try any_goals (refine congrArg some ?_; first | rfl | (simp only [go_sem, Nat.reduceBEq, Nat.reduceAdd, Nat.reduceMul, Nat.reduceSub, Nat.reduceLeDiff, Nat.reduceLT, Nat.reduceEqDiff, Int.reduceEq, Int.reduceBEq, Int.reduceBNe, Int.reduceLT, Int.reduceLE, List.isEmpty_nil, *]; done) | (simp only [go_sem, Nat.reduceBEq, Nat.reduceAdd, Nat.reduceMul, Nat.reduceSub, Nat.reduceLeDiff, Nat.reduceLT, Nat.reduceEqDiff, Int.reduceEq, Int.reduceBEq, Int.reduceBNe, Int.reduceLT, Int.reduceLE, List.isEmpty_nil, *]; rfl) | (simp_all [List.isEmpty_nil]; done))
  · have hb : (stateErr f s != 0) = true := by simpa using he
    rw [hb]
    refine dcall_mk orders Try.func28 rfl (by kernel_rfl) noMu (by kernel_rfl) rfl (fun hs => ?_)
    repeat' (first
      | with_reducible refine cdK_splitN (fun h => ?_) (fun h => ?_)
      | with_reducible refine gdK_splitTN (fun h => ?_) (fun h => ?_)
      | with_reducible refine gdK_splitFN (fun h => ?_) (fun h => ?_)
      | refine cdK_split (fun h => ?_) (fun h => ?_)
      | refine gdK_splitT (fun h => ?_) (fun h => ?_)
      | refine gdK_splitF (fun h => ?_) (fun h => ?_)
      | refine clK_mk (hr) rfl ?_
      | simp only [go_sem, Nat.reduceBEq, Nat.reduceAdd, Nat.reduceMul, Nat.reduceSub, Nat.reduceLeDiff, Nat.reduceLT, Nat.reduceEqDiff, Int.reduceEq, Int.reduceBEq, Int.reduceBNe, Int.reduceLT, Int.reduceLE, *])
    try any_goals (refine congrArg some ?_; first | rfl | (simp only [go_sem, Nat.reduceBEq, Nat.reduceAdd, Nat.reduceMul, Nat.reduceSub, Nat.reduceLeDiff, Nat.reduceLT, Nat.reduceEqDiff, Int.reduceEq, Int.reduceBEq, Int.reduceBNe, Int.reduceLT, Int.reduceLE, List.isEmpty_nil, *]; done) | (simp only [go_sem, Nat.reduceBEq, Nat.reduceAdd, Nat.reduceMul, Nat.reduceSub, Nat.reduceLeDiff, Nat.reduceLT, Nat.reduceEqDiff, Int.reduceEq, Int.reduceBEq, Int.reduceBNe, Int.reduceLT, Int.reduceLE, List.isEmpty_nil, *]; rfl) | (simp_all [List.isEmpty_nil]; done))
end Ytajgclnahfmfmaa
end Go.Vm
