/- The six laws of layer 27 are true. -/
import Derived.Test.YtajgclnahfmfmaaR5
set_option linter.unusedSimpArgs false
set_option maxRecDepth 10000
namespace Go.Vm
open Go Go.Proofs
namespace Ytajgclnahfmfmaa
open Go.Proofs.Try

attribute [go_sem] Try.results14 Try.results44 Try.results3 Try.results4 Try.results5 Try.results6 Try.results7 Try.results8

def cdRow : Row := ⟨true, [1], -1⟩
def cdFlow : Flow := ⟨1, 1, 0, true, [⟨0, 0, true, [cdRow], true, [⟨false, cdRow⟩]⟩]⟩
theorem countdown_d : DCall Try.prog 44 [] cdFlow.tr := by
  refine dcall_mk orders Try.func44 rfl (by kernel_rfl) (fun d => d == 0) (by kernel_rfl) rfl (fun hs => ?_)
  repeat' (first
    | with_reducible refine cdK_splitN (fun h => ?_) (fun h => ?_)
    | with_reducible refine gdK_splitTN (fun h => ?_) (fun h => ?_)
    | with_reducible refine gdK_splitFN (fun h => ?_) (fun h => ?_)
    | refine cdK_split (fun h => ?_) (fun h => ?_)
    | refine gdK_splitT (fun h => ?_) (fun h => ?_)
    | refine gdK_splitF (fun h => ?_) (fun h => ?_)
    | simp only [go_sem, Nat.reduceBEq, Nat.reduceAdd, Nat.reduceMul, Nat.reduceSub, Nat.reduceLeDiff, Nat.reduceLT, Nat.reduceEqDiff, Int.reduceEq, Int.reduceBEq, Int.reduceBNe, Int.reduceLT, Int.reduceLE, *, cdFlow, cdRow])
def cdState : State := ⟨0, true, [2]⟩
theorem cd_follow : followR cdFlow cdState [0, 0, 0] [] = ([⟨0, true, [2]⟩, ⟨0, true, [1]⟩, ⟨0, true, [0]⟩], [0, 0], 0) := by kernel_rfl
theorem alive_d : DCall Try.prog 14 [] (.bool true) := by
  have hf := follow_d cdFlow cdState true false [0, 0, 0] []
  rw [cd_follow] at hf
  simp only [walkTr, statesN, intsN, List.isEmpty_cons, Bool.not_false] at hf
  refine dcall_mk orders Try.func14 rfl (by kernel_rfl) noMu (by kernel_rfl) rfl (fun hs => ?_)
  have hs1 := sameInts_d true true [0, 0] [0, 0]
  rw [show sameInts [0, 0] [0, 0] = true from rfl] at hs1
  have h3 : (((3 : Nat) : Int) == 3) = true := rfl
  have t2 : Int.toNat 2 = 2 := rfl
  have t0 : Int.toNat 0 = 0 := rfl
  repeat' (first
    | with_reducible refine cdK_splitN (fun h => ?_) (fun h => ?_)
    | with_reducible refine gdK_splitTN (fun h => ?_) (fun h => ?_)
    | with_reducible refine gdK_splitFN (fun h => ?_) (fun h => ?_)
    | refine cdK_split (fun h => ?_) (fun h => ?_)
    | refine gdK_splitT (fun h => ?_) (fun h => ?_)
    | refine gdK_splitF (fun h => ?_) (fun h => ?_)
    | refine clK_mk (countdown_d) rfl ?_
    | refine clK_mk (hf) rfl ?_
    | refine clK_mk (hs1) rfl ?_
    | simp only [go_sem, Nat.reduceBEq, Nat.reduceAdd, Nat.reduceMul, Nat.reduceSub, Nat.reduceLeDiff, Nat.reduceLT, Nat.reduceEqDiff, Int.reduceEq, Int.reduceBEq, Int.reduceBNe, Int.reduceLT, Int.reduceLE, *])

theorem RunChecks_d (f : Flow) (s : State) : DCall Try.prog 3 [f.tr, s.tr] (.bool true) := by
  refine dcall_mk orders Try.func3 rfl (by kernel_rfl) noMu (by kernel_rfl) rfl (fun hs => ?_)
  have he : (stateErr f s == stateErr f s) = true := by simp
  repeat' (first
    | with_reducible refine cdK_splitN (fun h => ?_) (fun h => ?_)
    | with_reducible refine gdK_splitTN (fun h => ?_) (fun h => ?_)
    | with_reducible refine gdK_splitFN (fun h => ?_) (fun h => ?_)
    | refine cdK_split (fun h => ?_) (fun h => ?_)
    | refine gdK_splitT (fun h => ?_) (fun h => ?_)
    | refine gdK_splitF (fun h => ?_) (fun h => ?_)
    | refine clK_mk (runCheck_d f s) rfl ?_
    | refine clK_mk (refCheck_d f s) rfl ?_
    | refine clK_mk (alive_d) rfl ?_
    | simp only [go_sem, Nat.reduceBEq, Nat.reduceAdd, Nat.reduceMul, Nat.reduceSub, Nat.reduceLeDiff, Nat.reduceLT, Nat.reduceEqDiff, Int.reduceEq, Int.reduceBEq, Int.reduceBNe, Int.reduceLT, Int.reduceLE, *])
theorem RunEvals_d (r : Row) (vnn : Bool) (vals : List Int) : DCall Try.prog 5 [r.tr, .sl vnn (ints vals)] (.bool true) := by
  refine dcall_mk orders Try.func5 rfl (by kernel_rfl) noMu (by kernel_rfl) rfl (fun hs => ?_)
  have h1 := runEval_d r vnn vals
  have h2 := evalError_d r vnn vals
  by_cases he : evalErr r vals = 0
  · have hl : r.coefs.length ≤ vals.length := by
      unfold evalErr at he
      split at he; · cases he
      split at he; · cases he
      rename_i h; simp at h; have := right_len h; omega
    have h3 := refEval_d r vnn vals hl
    rw [he] at h1 h2
    have hx : (evalR r vals == evalR r vals) = true := by simp
    rw [if_pos rfl] at h1
    repeat' (first
      | with_reducible refine cdK_splitN (fun h => ?_) (fun h => ?_)
      | with_reducible refine gdK_splitTN (fun h => ?_) (fun h => ?_)
      | with_reducible refine gdK_splitFN (fun h => ?_) (fun h => ?_)
      | refine cdK_split (fun h => ?_) (fun h => ?_)
      | refine gdK_splitT (fun h => ?_) (fun h => ?_)
      | refine gdK_splitF (fun h => ?_) (fun h => ?_)
      | refine clK_mk (h1) rfl ?_
      | refine clK_mk (h2) rfl ?_
      | refine clK_mk (h3) rfl ?_
      | refine clK_mk (alive_d) rfl ?_
      | simp only [go_sem, Nat.reduceBEq, Nat.reduceAdd, Nat.reduceMul, Nat.reduceSub, Nat.reduceLeDiff, Nat.reduceLT, Nat.reduceEqDiff, Int.reduceEq, Int.reduceBEq, Int.reduceBNe, Int.reduceLT, Int.reduceLE, *])
  · have hb : (evalErr r vals != 0) = true := by simpa using he
    have hx : (evalErr r vals == evalErr r vals) = true := by simp
    rw [if_neg he] at h1
    repeat' (first
      | with_reducible refine cdK_splitN (fun h => ?_) (fun h => ?_)
      | with_reducible refine gdK_splitTN (fun h => ?_) (fun h => ?_)
      | with_reducible refine gdK_splitFN (fun h => ?_) (fun h => ?_)
      | refine cdK_split (fun h => ?_) (fun h => ?_)
      | refine gdK_splitT (fun h => ?_) (fun h => ?_)
      | refine gdK_splitF (fun h => ?_) (fun h => ?_)
      | refine clK_mk (h1) rfl ?_
      | refine clK_mk (h2) rfl ?_
      | refine clK_mk (alive_d) rfl ?_
      | simp only [go_sem, Nat.reduceBEq, Nat.reduceAdd, Nat.reduceMul, Nat.reduceSub, Nat.reduceLeDiff, Nat.reduceLT, Nat.reduceEqDiff, Int.reduceEq, Int.reduceBEq, Int.reduceBNe, Int.reduceLT, Int.reduceLE, *])

theorem sameGo_refl : ∀ l : List Int, sameGo l l = true
  | [] => rfl
  | a :: l => by simp [sameGo, sameGo_refl l]
theorem sameInts_refl (l : List Int) : sameInts l l = true := by simp [sameInts, sameGo_refl]
theorem sameS_full (a : State) : sameS (full a) a = true := by simp [sameS, full, sameInts_refl]
theorem sameS_refl (a : State) : sameS a a = true := by simp [sameS, sameInts_refl]
theorem RunSteps_d (f : Flow) (s : State) (t : Int) (dnn : Bool) (draws : List Int) : DCall Try.prog 6 [f.tr, s.tr, i64 t, .sl dnn (ints draws)] (.bool true) := by
  have h1 := runEnabled_d f s
  have h2 := runStep_d f s t dnn draws
  have h3 := refCheck_d f s
  by_cases he : stateErr f s = 0
  · rw [he] at h1 h2 h3
    rw [if_pos rfl] at h1 h2
    have hg := good he
    have h4 := refStep_d f s t dnn draws hg
    have h5 := enabled_d f s (fun t ht => hg.okT ht) (by have := hg.flow.len; omega)
    have h6 := sameInts_d (!(choices f s).isEmpty) (!(choices f s).isEmpty) (choices f s) (choices f s)
    rw [sameInts_refl] at h6
    have h7 := same_d (stepX f s t draws).1 (stepR f s t draws).1
    rw [show sameS (stepX f s t draws).1 (stepR f s t draws).1 = true by rw [stepX_R]; split; exact sameS_full _; exact sameS_refl _] at h7
    have e1 : (stepX f s t draws).2.2 = (stepR f s t draws).2.2 := by rw [stepX_err]
    have e2 : (stepX f s t draws).2.1 = (stepR f s t draws).2.1 := by rw [stepX_err]
    unfold stepTr at h2 h4
    rw [e1, e2] at h2
    generalize stepX f s t draws = qx at *
    generalize stepR f s t draws = qr at *
    have hb1 : (qr.2.2 == qr.2.2) = true := by simp
    have hb2 : ((qr.2.1 : Int) == qr.2.1) = true := by simp
    clear e1 e2
    refine dcall_mk orders Try.func6 rfl (by kernel_rfl) (fun d => d == 11 || d == 15) (by kernel_rfl) rfl (fun hs => ?_)
    repeat' (first
      | with_reducible refine cdK_splitN (fun h => ?_) (fun h => ?_)
      | with_reducible refine gdK_splitTN (fun h => ?_) (fun h => ?_)
      | with_reducible refine gdK_splitFN (fun h => ?_) (fun h => ?_)
      | refine cdK_split (fun h => ?_) (fun h => ?_)
      | refine gdK_splitT (fun h => ?_) (fun h => ?_)
      | refine gdK_splitF (fun h => ?_) (fun h => ?_)
      | refine clK_mk (h1) rfl ?_
      | refine clK_mk (h2) rfl ?_
      | refine clK_mk (h3) rfl ?_
      | refine clK_mk (h4) rfl ?_
      | refine clK_mk (h5) rfl ?_
      | refine clK_mk (h6) rfl ?_
      | refine clK_mk (h7) rfl ?_
      | refine clK_mk (alive_d) rfl ?_
      | simp only [go_sem, Nat.reduceBEq, Nat.reduceAdd, Nat.reduceMul, Nat.reduceSub, Nat.reduceLeDiff, Nat.reduceLT, Nat.reduceEqDiff, Int.reduceEq, Int.reduceBEq, Int.reduceBNe, Int.reduceLT, Int.reduceLE, *])
  · have hb : (stateErr f s != 0) = true := by simpa using he
    have hx : (stateErr f s == stateErr f s) = true := by simp
    have hz : (((0 : Nat) : Int) == 0) = true := rfl
    rw [if_neg he] at h1 h2
    have h8 := none_d zeroS
    rw [show noneB zeroS = true from rfl] at h8
    unfold stepTr at h2
    refine dcall_mk orders Try.func6 rfl (by kernel_rfl) (fun d => d == 11 || d == 15) (by kernel_rfl) rfl (fun hs => ?_)
    repeat' (first
      | with_reducible refine cdK_splitN (fun h => ?_) (fun h => ?_)
      | with_reducible refine gdK_splitTN (fun h => ?_) (fun h => ?_)
      | with_reducible refine gdK_splitFN (fun h => ?_) (fun h => ?_)
      | refine cdK_split (fun h => ?_) (fun h => ?_)
      | refine gdK_splitT (fun h => ?_) (fun h => ?_)
      | refine gdK_splitF (fun h => ?_) (fun h => ?_)
      | refine clK_mk (h1) rfl ?_
      | refine clK_mk (h2) rfl ?_
      | refine clK_mk (h3) rfl ?_
      | refine clK_mk (h8) rfl ?_
      | refine clK_mk (alive_d) rfl ?_
      | simp only [go_sem, Nat.reduceBEq, Nat.reduceAdd, Nat.reduceMul, Nat.reduceSub, Nat.reduceLeDiff, Nat.reduceLT, Nat.reduceEqDiff, Int.reduceEq, Int.reduceBEq, Int.reduceBNe, Int.reduceLT, Int.reduceLE, *, zeroS])

/-! executions agree -/
def eqv (a b : State) : Prop := a.loc = b.loc ∧ a.vals = b.vals
theorem openB_eqv {a b : State} (h : eqv a b) (t : Trans) : openB a t = openB b t := by unfold openB; rw [h.1, h.2]
theorem chF_eqv {a b : State} (h : eqv a b) : ∀ (l : List Trans) (k : Nat), chF a k l = chF b k l
  | [], _ => rfl
  | t :: l, k => by simp only [chF, openB_eqv h, chF_eqv h l]
theorem choices_eqv {a b : State} (h : eqv a b) (f : Flow) : choices f a = choices f b := chF_eqv h _ _
theorem do2_eqv {a b : State} (h : eqv a b) : ∀ (l : List Upd) (v : List Int), do2 a l v = do2 b l v
  | [], _ => by simp [do2]
  | _ :: _, [] => by simp [do2]
  | u :: l, v :: q => by simp only [do2, do2_eqv h l q, h.2]
theorem stepX_eqv {a b : State} (h : eqv a b) (f : Flow) (t : Int) (ds : List Int) : stepX f a t ds = stepX f b t ds := by
  unfold stepX doR
  simp only [openB_eqv h, do2_eqv h]
theorem full_eqv {a b : State} : full a = full b ↔ eqv a b := by
  unfold full eqv; constructor
  · intro h; injection h with h1 h2 h3; exact ⟨h1, h3⟩
  · rintro ⟨h1, h2⟩; rw [h1, h2]
theorem stepXR {a b : State} (h : eqv a b) (f : Flow) (t : Int) (ds : List Int) : (stepX f a t ds).2 = (stepR f b t ds).2 ∧ eqv (stepX f a t ds).1 (stepR f b t ds).1 := by
  rw [stepX_eqv h, stepX_R]
  split
  · exact ⟨rfl, rfl, rfl⟩
  · exact ⟨rfl, rfl, rfl⟩
theorem sameStates_full : ∀ {S S' : List State}, S.map full = S'.map full → sameStates S S' = true := by
  have key : ∀ {S S' : List State}, S.map full = S'.map full → sameSGo S S' = true := by
    intro S
    induction S with
    | nil => intro S' _; cases S' <;> rfl
    | cons a S ih =>
      intro S' h
      cases S' with
      | nil => simp at h
      | cons b S' =>
        simp only [List.map_cons, List.cons.injEq] at h
        have h1 := full_eqv.1 h.1
        simp only [sameSGo, ih h.2]
        rw [if_pos]
        simp [sameS, h1.1, h1.2, sameInts_refl]
  intro S S' h
  have hl : S.length = S'.length := by simpa using congrArg List.length h
  simp [sameStates, hl, key h]
def agree (a : List State × List Int × Int) (b : List State × List Int × Int) : Prop := a.1.map full = b.1.map full ∧ a.2 = b.2
theorem follow_rel (f : Flow) (picks : List Int) : ∀ (r : List Int) (i : Nat) (a b : State) (ds : List Int) (S S' : List State) (T : List Int), picks.drop i = r → i + r.length = picks.length → eqv a b → S.map full = S'.map full →
    agree (walkGo f (chooseF f picks) (r.length + 1) i a ds S T) (refFollowGo f r b ds S' T)
  | [], i, a, b, ds, S, S', T, hr, hi, hab, hS => by
    have : chooseF f picks i a = (0, false) := by simp at hi; simp [chooseF, hi]
    simp only [walkGo, refFollowGo, this, Bool.false_eq_true, if_false]
    exact ⟨hS, rfl⟩
  | p :: r, i, a, b, ds, S, S', T, hr, hi, hab, hS => by
    have hlt : i < picks.length := by simp at hi; omega
    have hp : picks.getD i 0 = p := by
      have := congrArg (fun l => l[0]?) hr
      simp at this
      simp [this]
    have hc : chooseF f picks i a = if (choices f b).length = 0 then (0, false) else (pickT f b p, true) := by
      unfold chooseF pickT
      rw [if_neg (by omega), hp, choices_eqv hab]
    rw [walkGo, refFollowGo, hc]
    by_cases h0 : (choices f b).length = 0
    · simp only [h0, if_true, Bool.false_eq_true, if_false]; exact ⟨hS, rfl⟩
    · simp only [if_neg h0, if_true]
      obtain ⟨h1, h2⟩ := stepXR hab f (pickT f b p) ds
      rw [h1]
      split
      · exact ⟨rfl, rfl⟩
      · refine follow_rel f picks r (i + 1) _ _ _ _ _ _ ?_ (by simp at hi ⊢; omega) h2 (by simp [hS, full_eqv.2 h2])
        have := congrArg (List.drop 1) hr
        simpa [List.drop_drop] using this
theorem trace_rel (f : Flow) (trans : List Int) : ∀ (r : List Int) (i : Nat) (a b : State) (ds : List Int) (S S' : List State) (T : List Int), trans.drop i = r → i + r.length = trans.length → eqv a b → S.map full = S'.map full →
    (walkGo f (chooseT trans) (r.length + 1) i a ds S T).1.map full = (refTraceGo f r b ds S').1.map full ∧ (walkGo f (chooseT trans) (r.length + 1) i a ds S T).2.2 = (refTraceGo f r b ds S').2
  | [], i, a, b, ds, S, S', T, hr, hi, hab, hS => by
    have : chooseT trans i a = (0, false) := by simp at hi; simp [chooseT, hi]
    simp only [walkGo, refTraceGo, this, Bool.false_eq_true, if_false]
    exact ⟨hS, trivial⟩
  | p :: r, i, a, b, ds, S, S', T, hr, hi, hab, hS => by
    have hlt : i < trans.length := by simp at hi; omega
    have hp : trans.getD i 0 = p := by
      have := congrArg (fun l => l[0]?) hr
      simp at this
      simp [this]
    have hc : chooseT trans i a = (p, true) := by
      unfold chooseT
      rw [if_neg (by omega), hp]
    rw [walkGo, refTraceGo, hc]
    simp only [if_true]
    obtain ⟨h1, h2⟩ := stepXR hab f p ds
    rw [h1]
    split
    · exact ⟨rfl, rfl⟩
    · refine trace_rel f trans r (i + 1) _ _ _ _ _ _ ?_ (by simp at hi ⊢; omega) h2 (by simp [hS, full_eqv.2 h2])
      have := congrArg (List.drop 1) hr
      simpa [List.drop_drop] using this

theorem follow_agree (f : Flow) (s : State) (picks draws : List Int) (he : stateErr f s = 0) : agree (followR f s picks draws) (refFollow f s picks draws) := by
  unfold followR refFollow
  rw [he]
  simp only [bne_self_eq_false, Bool.false_eq_true, if_false]
  split
  · exact ⟨rfl, rfl⟩
  · exact follow_rel f picks picks 0 s s draws [s] [s] [] rfl (by simp) ⟨rfl, rfl⟩ rfl
theorem sameInts_self (l : List Int) : sameInts l l = true := sameInts_refl l
theorem RunFollows_d (f : Flow) (s : State) (pnn dnn : Bool) (picks draws : List Int) : DCall Try.prog 4 [f.tr, s.tr, .sl pnn (ints picks), .sl dnn (ints draws)] (.bool true) := by
  have h1 := follow_d f s pnn dnn picks draws
  have h3 := refCheck_d f s
  unfold walkTr at h1
  by_cases he : stateErr f s = 0
  · have hg := good he
    have h4 := refFollow_d f s pnn dnn picks draws hg
    unfold walkTr at h4
    have hag := follow_agree f s picks draws he
    generalize followR f s picks draws = A at *
    generalize refFollow f s picks draws = B at *
    have h5 := sameStates_d (!A.1.isEmpty) (!B.1.isEmpty) A.1 B.1
    rw [sameStates_full hag.1] at h5
    have h6 := sameInts_d (!A.2.1.isEmpty) (!A.2.1.isEmpty) A.2.1 A.2.1
    rw [sameInts_refl] at h6
    rw [← hag.2] at h4
    have hx : (A.2.2 == A.2.2) = true := by simp
    rw [he] at h3
    clear hag
    refine dcall_mk orders Try.func4 rfl (by kernel_rfl) noMu (by kernel_rfl) rfl (fun hs => ?_)
    repeat' (first
      | with_reducible refine cdK_splitN (fun h => ?_) (fun h => ?_)
      | with_reducible refine gdK_splitTN (fun h => ?_) (fun h => ?_)
      | with_reducible refine gdK_splitFN (fun h => ?_) (fun h => ?_)
      | refine cdK_split (fun h => ?_) (fun h => ?_)
      | refine gdK_splitT (fun h => ?_) (fun h => ?_)
      | refine gdK_splitF (fun h => ?_) (fun h => ?_)
      | refine clK_mk (h1) rfl ?_
      | refine clK_mk (h3) rfl ?_
      | refine clK_mk (h4) rfl ?_
      | refine clK_mk (h5) rfl ?_
      | refine clK_mk (h6) rfl ?_
      | refine clK_mk (alive_d) rfl ?_
      | simp only [go_sem, Nat.reduceBEq, Nat.reduceAdd, Nat.reduceMul, Nat.reduceSub, Nat.reduceLeDiff, Nat.reduceLT, Nat.reduceEqDiff, Int.reduceEq, Int.reduceBEq, Int.reduceBNe, Int.reduceLT, Int.reduceLE, *])
  · have hb : (stateErr f s != 0) = true := by simpa using he
    have hx : (stateErr f s == stateErr f s) = true := by simp
    have hz : (IntKind.i64.wrap (((0 : Nat) : Int) + ((0 : Nat) : Int)) == 0) = true := rfl
    rw [show followR f s picks draws = ([], [], stateErr f s) by unfold followR; rw [hb]; rfl] at h1
    simp only [statesN, intsN, List.isEmpty_nil, Bool.not_true] at h1
    refine dcall_mk orders Try.func4 rfl (by kernel_rfl) noMu (by kernel_rfl) rfl (fun hs => ?_)
    repeat' (first
      | with_reducible refine cdK_splitN (fun h => ?_) (fun h => ?_)
      | with_reducible refine gdK_splitTN (fun h => ?_) (fun h => ?_)
      | with_reducible refine gdK_splitFN (fun h => ?_) (fun h => ?_)
      | refine cdK_split (fun h => ?_) (fun h => ?_)
      | refine gdK_splitT (fun h => ?_) (fun h => ?_)
      | refine gdK_splitF (fun h => ?_) (fun h => ?_)
      | refine clK_mk (h1) rfl ?_
      | refine clK_mk (h3) rfl ?_
      | refine clK_mk (alive_d) rfl ?_
      | simp only [go_sem, Nat.reduceBEq, Nat.reduceAdd, Nat.reduceMul, Nat.reduceSub, Nat.reduceLeDiff, Nat.reduceLT, Nat.reduceEqDiff, Int.reduceEq, Int.reduceBEq, Int.reduceBNe, Int.reduceLT, Int.reduceLE, *])
theorem trace_agree (f : Flow) (s : State) (trans draws : List Int) (he : stateErr f s = 0) : (traceR f s trans draws).1.map full = (refTrace f s trans draws).1.map full ∧ (traceR f s trans draws).2 = (refTrace f s trans draws).2 := by
  unfold traceR refTrace
  rw [he]
  simp only [bne_self_eq_false, Bool.false_eq_true, if_false]
  split
  · exact ⟨rfl, rfl⟩
  · exact trace_rel f trans trans 0 s s draws [s] [s] [] rfl (by simp) ⟨rfl, rfl⟩ rfl
theorem RunTraces_d (f : Flow) (s : State) (pnn dnn : Bool) (trans draws : List Int) : DCall Try.prog 7 [f.tr, s.tr, .sl pnn (ints trans), .sl dnn (ints draws)] (.bool true) := by
  have h1 := trace_d f s pnn dnn trans draws
  have h3 := refCheck_d f s
  by_cases he : stateErr f s = 0
  · have hg := good he
    have h4 := refTrace_d f s pnn dnn trans draws hg
    have hag := trace_agree f s trans draws he
    generalize traceR f s trans draws = A at *
    generalize refTrace f s trans draws = B at *
    have h5 := sameStates_d (!A.1.isEmpty) (!B.1.isEmpty) A.1 B.1
    rw [sameStates_full hag.1] at h5
    rw [← hag.2] at h4
    have hx : (A.2 == A.2) = true := by simp
    rw [he] at h3
    clear hag
    refine dcall_mk orders Try.func7 rfl (by kernel_rfl) noMu (by kernel_rfl) rfl (fun hs => ?_)
    repeat' (first
      | with_reducible refine cdK_splitN (fun h => ?_) (fun h => ?_)
      | with_reducible refine gdK_splitTN (fun h => ?_) (fun h => ?_)
      | with_reducible refine gdK_splitFN (fun h => ?_) (fun h => ?_)
      | refine cdK_split (fun h => ?_) (fun h => ?_)
      | refine gdK_splitT (fun h => ?_) (fun h => ?_)
      | refine gdK_splitF (fun h => ?_) (fun h => ?_)
      | refine clK_mk (h1) rfl ?_
      | refine clK_mk (h3) rfl ?_
      | refine clK_mk (h4) rfl ?_
      | refine clK_mk (h5) rfl ?_
      | refine clK_mk (alive_d) rfl ?_
      | simp only [go_sem, Nat.reduceBEq, Nat.reduceAdd, Nat.reduceMul, Nat.reduceSub, Nat.reduceLeDiff, Nat.reduceLT, Nat.reduceEqDiff, Int.reduceEq, Int.reduceBEq, Int.reduceBNe, Int.reduceLT, Int.reduceLE, *])
  · have hb : (stateErr f s != 0) = true := by simpa using he
    have hx : (stateErr f s == stateErr f s) = true := by simp
    have hz : (((0 : Nat) : Int) == 0) = true := rfl
    rw [show traceR f s trans draws = ([], stateErr f s) by unfold traceR; rw [hb]; rfl] at h1
    simp only [statesN, List.isEmpty_nil, Bool.not_true] at h1
    refine dcall_mk orders Try.func7 rfl (by kernel_rfl) noMu (by kernel_rfl) rfl (fun hs => ?_)
    repeat' (first
      | with_reducible refine cdK_splitN (fun h => ?_) (fun h => ?_)
      | with_reducible refine gdK_splitTN (fun h => ?_) (fun h => ?_)
      | with_reducible refine gdK_splitFN (fun h => ?_) (fun h => ?_)
      | refine cdK_split (fun h => ?_) (fun h => ?_)
      | refine gdK_splitT (fun h => ?_) (fun h => ?_)
      | refine gdK_splitF (fun h => ?_) (fun h => ?_)
      | refine clK_mk (h1) rfl ?_
      | refine clK_mk (h3) rfl ?_
      | refine clK_mk (alive_d) rfl ?_
      | simp only [go_sem, Nat.reduceBEq, Nat.reduceAdd, Nat.reduceMul, Nat.reduceSub, Nat.reduceLeDiff, Nat.reduceLT, Nat.reduceEqDiff, Int.reduceEq, Int.reduceBEq, Int.reduceBNe, Int.reduceLT, Int.reduceLE, *])

/-! Trace of what Follow returns -/
theorem retrace (f : Flow) (picks : List Int) : ∀ (n i : Nat) (a : State) (ds : List Int) (S : List State) (T : List Int) (S' : List State) (T' : List Int), n + i = picks.length + 1 → i ≤ picks.length → T.length = i → S.length = i + 1 →
    walkGo f (chooseF f picks) n i a ds S T = (S', T', 0) → S'.length = T'.length + 1 ∧ T'.length ≤ picks.length ∧ (∃ T2, T' = T ++ T2) ∧ walkGo f (chooseT T') (T'.length + 1 - i) i a ds S T = (S', T', 0)
  | 0, i, a, ds, S, T, S', T', hn, hi, hT, hS, h => by omega
  | n + 1, i, a, ds, S, T, S', T', hn, hi, hT, hS, h => by
    rw [walkGo] at h
    split at h
    · rename_i hc
      split at h
      · rename_i he; injection h with h1 h2; injection h2 with h2 h3; rw [h3] at he; simp at he
      · rename_i he
        have hlt : i < picks.length := by
          rcases Nat.lt_or_ge i picks.length with h' | h'
          · exact h'
          · have : i = picks.length := by omega
            simp [chooseF, this] at hc
        obtain ⟨g1, g2, ⟨T2, g3⟩, g4⟩ := retrace f picks n (i + 1) _ _ _ _ S' T' (by omega) hlt (by simp [hT]) (by simp [hS]) h
        have hTl : i < T'.length := by rw [g3]; simp; omega
        refine ⟨g1, g2, ⟨[(chooseF f picks i a).1] ++ T2, by rw [g3]; simp⟩, ?_⟩
        have e1 : T'.length + 1 - i = (T'.length + 1 - (i + 1)) + 1 := by omega
        have e2 : T'.getD i 0 = (chooseF f picks i a).1 := by
          rw [g3, ← hT]; simp
        have e3 : chooseT T' i a = ((chooseF f picks i a).1, true) := by
          unfold chooseT; rw [if_neg (by omega), e2]
        rw [e1, walkGo, e3]
        simp only [if_true]
        rw [if_neg he]
        exact g4
    · injection h with h1 h2; injection h2 with h2 h3
      subst h1; subst h2
      refine ⟨by omega, by omega, ⟨[], by simp⟩, ?_⟩
      have e1 : T.length + 1 - i = 1 := by omega
      have e3 : chooseT T i a = (0, false) := by simp [chooseT, hT]
      rw [e1, walkGo, e3]
      simp
theorem follow_trace (f : Flow) (s : State) (picks draws : List Int) (he : (followR f s picks draws).2.2 = 0) : (followR f s picks draws).1.length = (followR f s picks draws).2.1.length + 1 ∧ (followR f s picks draws).2.1.length ≤ 4096 ∧ traceR f s (followR f s picks draws).2.1 draws = ((followR f s picks draws).1, 0) := by
  unfold followR at he ⊢
  split at he
  · rename_i h; simp only at he; rw [he] at h; simp at h
  · rename_i h1
    rw [if_neg h1]
    split at he
    · cases he
    · rename_i h2
      rw [if_neg h2]
      have hl : picks.length ≤ 4096 := by simp at h2; omega
      generalize hW : walkGo f (chooseF f picks) (picks.length + 1) 0 s draws [s] [] = W at *
      obtain ⟨S', T', e⟩ := W
      simp only at he
      subst he
      obtain ⟨g1, g2, _, g4⟩ := retrace f picks (picks.length + 1) 0 s draws [s] [] S' T' (by omega) (by omega) rfl rfl hW
      refine ⟨g1, by simp only; omega, ?_⟩
      unfold traceR
      rw [if_neg h1, if_neg (by simp; omega)]
      simp only [Nat.sub_zero] at g4
      rw [g4]
theorem RunSame_d (f : Flow) (s : State) (pnn dnn : Bool) (picks draws : List Int) : DCall Try.prog 8 [f.tr, s.tr, .sl pnn (ints picks), .sl dnn (ints draws)] (.bool true) := by
  have h1 := follow_d f s pnn dnn picks draws
  unfold walkTr at h1
  by_cases he : (followR f s picks draws).2.2 = 0
  · obtain ⟨g1, g2, g3⟩ := follow_trace f s picks draws he
    have h2 := trace_d f s (!(followR f s picks draws).2.1.isEmpty) dnn (followR f s picks draws).2.1 draws
    rw [g3] at h2
    rw [he] at h1
    generalize followR f s picks draws = A at *
    have h5 := sameStates_d (!A.1.isEmpty) (!A.1.isEmpty) A.1 A.1
    rw [sameStates_full rfl] at h5
    have hx : ((A.1.length : Int) == IntKind.i64.wrap ((A.2.1.length : Int) + 1)) = true := by rw [wrap_succ (by omega), g1]; simp
    clear g1 g2 g3
    refine dcall_mk orders Try.func8 rfl (by kernel_rfl) noMu (by kernel_rfl) rfl (fun hs => ?_)
    repeat' (first
      | with_reducible refine cdK_splitN (fun h => ?_) (fun h => ?_)
      | with_reducible refine gdK_splitTN (fun h => ?_) (fun h => ?_)
      | with_reducible refine gdK_splitFN (fun h => ?_) (fun h => ?_)
      | refine cdK_split (fun h => ?_) (fun h => ?_)
      | refine gdK_splitT (fun h => ?_) (fun h => ?_)
      | refine gdK_splitF (fun h => ?_) (fun h => ?_)
      | refine clK_mk (h1) rfl ?_
      | refine clK_mk (h2) rfl ?_
      | refine clK_mk (h5) rfl ?_
      | refine clK_mk (alive_d) rfl ?_
      | simp only [go_sem, Nat.reduceBEq, Nat.reduceAdd, Nat.reduceMul, Nat.reduceSub, Nat.reduceLeDiff, Nat.reduceLT, Nat.reduceEqDiff, Int.reduceEq, Int.reduceBEq, Int.reduceBNe, Int.reduceLT, Int.reduceLE, *])
  · have hb : ((followR f s picks draws).2.2 != 0) = true := by simpa using he
    refine dcall_mk orders Try.func8 rfl (by kernel_rfl) noMu (by kernel_rfl) rfl (fun hs => ?_)
    repeat' (first
      | with_reducible refine cdK_splitN (fun h => ?_) (fun h => ?_)
      | with_reducible refine gdK_splitTN (fun h => ?_) (fun h => ?_)
      | with_reducible refine gdK_splitFN (fun h => ?_) (fun h => ?_)
      | refine cdK_split (fun h => ?_) (fun h => ?_)
      | refine gdK_splitT (fun h => ?_) (fun h => ?_)
      | refine gdK_splitF (fun h => ?_) (fun h => ?_)
      | refine clK_mk (h1) rfl ?_
      | refine clK_mk (alive_d) rfl ?_
      | simp only [go_sem, Nat.reduceBEq, Nat.reduceAdd, Nat.reduceMul, Nat.reduceSub, Nat.reduceLeDiff, Nat.reduceLT, Nat.reduceEqDiff, Int.reduceEq, Int.reduceBEq, Int.reduceBNe, Int.reduceLT, Int.reduceLE, *])
end Ytajgclnahfmfmaa
end Go.Vm
