/- The law of layer 25 on certificates, for as many rows as memory holds. -/
import Derived.Test.YtajgclnahfmfmaaL7
set_option linter.unusedSimpArgs false
set_option maxRecDepth 10000
namespace Go.Vm
open Go Go.Proofs Go.Whole
section
variable {P : Program} {mu : Nat → Bool} {F : Ex → St → Prop} {r : List Item} {s : St} {h : Hp}
theorem hpK_append_any2 {d site : Nat} {t e : TypeId} {esz by_ : Nat} {ag nn' : Bool} {v : PV} {l xs : List Tr} (ho : Own h site e esz ag v true l) (hel : elemB P t = some e) (hsz : P.cellsOf e = esz) (hz : (zeroB P e).map List.length = some esz) (h1 : Nat.blt 0 esz = true)
    (hby : P.bytesOf e = by_) (hx : ∀ x ∈ xs, elemOK ag esz x) (hb : (l.length + xs.length) * by_ ≤ 140737488355328 ∧ l.length + xs.length ≤ 4611686018427387904)
    (hk : ∀ v' h', Own h' site e esz ag v' true (l ++ xs) → (∀ s', (s' == site) = false → h' s' = h s') → kont P mu F r .normal ⟨upd s.sl d v', h'⟩) :
    hpK P mu F (appendPV P mu (some d) t v (.t (.sl nn' xs)) h) (some d) r s := by
  obtain ⟨v', h', h2, h3, h4⟩ := append_any (mu := mu) (d := d) (nn' := nn') hel hsz (by simp [Nat.blt] at h1; omega) (by
    cases hzz : zeroB P e with
    | none => rw [hzz] at hz; cases hz
    | some z => rw [hzz] at hz; exact ⟨z, rfl, by simpa using hz⟩) ho hx (by rw [hby]; exact hb)
  rw [h2, hpK_some]
  exact hk v' h' h3 h4
end
section
variable {H : Type} {enc : TypeId × Value → H} {P : Program} {w : World} {base : Nat} {spare : Nat → Bool} {held : Bool}
/-- a slice that is handed over: its data are as many as it says -/
theorem arg_len {t e : TypeId} {a : Option Addr} {len cap : Nat} {d : DataW H} {ps : List MemPlace} (hu : P.underlying t = some (.slice e)) (h : DataW.Trod enc P w base spare held t (.slice a len cap) d ps) : len = 0 ∨ ∃ el sp, d = .slice el sp ∧ el.length = len := by
  obtain ⟨fuel, hf⟩ := h
  cases fuel with
  | zero => simp [DataW.trod] at hf
  | succ fuel =>
    unfold DataW.trod at hf
    rw [hu] at hf
    cases a with
    | none =>
      simp only [Value.cells] at hf
      split at hf <;> simp_all
    | some a =>
      simp only [Value.cells] at hf
      right
      split at hf <;> try (cases hf; done)
      cases hmm : (List.range len).mapM (fun i => (w.cells? base (a.add (i * P.cellsOf e)) (P.cellsOf e)).bind (DataW.trod enc P w base spare held fuel e)) with
      | none => rw [hmm] at hf; simp at hf
      | some ys =>
        rw [hmm] at hf
        have hyl := mapM_some_length hmm
        simp only [Option.bind_some] at hf
        obtain ⟨rest, _, hr⟩ := Option.map_eq_some_iff.1 hf
        simp only [Prod.mk.injEq] at hr
        exact ⟨_, _, hr.1.symm, by rw [List.length_map, hyl, List.length_range]⟩
theorem reads_len {L : Nat → Prop} {nn : Bool} {l : List Tr} {a : Option Addr} {len cap : Nat} (h : Reads w L (.sl nn l) (.slice a len cap)) : l.length = len := by
  cases h <;> rfl
end
namespace Ytajgclnahfmfmaa
open Go.Proofs.Try
theorem append_rf2 {P : Program} {mu : Nat → Bool} {h : Hp} {d : Option Tmp} {t e : TypeId} {id : Id} {n by_ : Nat} {nn' : Bool} {cs : List PV} {ag : Bool} {xs : List Tr} {esz : Nat} (hel : elemB P t = some e) (hsz : P.cellsOf e = esz) (hz : (zeroB P e).map List.length = some esz) (h1 : Nat.blt 0 esz = true) (hby : P.bytesOf e = by_)
    (hx : ∀ x ∈ xs, x.cells.length = esz) (hg : hget h id = some ⟨cs, esz, n, e, ag, true⟩) (hb : (n + xs.length) * by_ ≤ 140737488355328 ∧ n + xs.length ≤ 4611686018427387904) (hne : xs ≠ []) :
    appendPV P mu d t (.rf id n) (.t (.sl nn' xs)) h = some (.rf id (n + xs.length), hset h id ⟨cs ++ (flat xs).map .t, esz, n + xs.length, e, ag, true⟩) := by
  have hpos : 0 < esz := by simp [Nat.blt] at h1; omega
  have hzz : ∃ z, zeroB P e = some z ∧ z.length = esz := by
    cases hzz : zeroB P e with
    | none => rw [hzz] at hz; cases hz
    | some z => rw [hzz] at hz; exact ⟨z, rfl, by simpa using hz⟩
  obtain ⟨z, hz1, hz2⟩ := hzz
  have hfl := flat_length xs esz hx
  have hl0 : xs.length ≠ 0 := fun e => hne (List.eq_nil_of_length_eq_zero e)
  unfold appendPV
  simp only [hel, hz1, srcPV, hfl, hsz, if_true, hz2, true_and, hg, hby]
  rw [if_pos hpos, if_pos hb, if_neg hl0]
theorem cloneRows_i2 (l : List Row) (h : Hp) (hlen : l.length ≤ 4398046511104) :
    ICall Try.prog 103 [.t (.sl true (l.map Row.tr))] h (fun v h' => v = .rf (hnext h 5) l.length ∧ h' = hnew h 5 ⟨(flat (l.map Row.tr)).map .t, 2, l.length, tRow, true, true⟩) := by
  by_cases hne : l = []
  · subst hne
    exact cloneRows_i' [] h (by simp)
  · have hempty : ¬ l = [] := hne
    refine icall_mk orders Try.func103 rfl (by kernel_rfl) (fun d => d == 5 || d == 7) (by kernel_rfl) rfl (fun hs hlen => ?_)
    clear hs
    repeat' (first
      | with_reducible refine cdK_splitN (fun h => ?_) (fun h => ?_)
      | with_reducible refine gdK_splitTN (fun h => ?_) (fun h => ?_)
      | with_reducible refine gdK_splitFN (fun h => ?_) (fun h => ?_)
      | with_reducible refine cdK_split (fun h => ?_) (fun h => ?_)
      | with_reducible refine gdK_splitT (fun h => ?_) (fun h => ?_)
      | with_reducible refine gdK_splitF (fun h => ?_) (fun h => ?_)
      | simp only [go_sem, Nat.reduceBEq, Nat.reduceAdd, Nat.reduceMul, Nat.reduceSub, Nat.reduceLeDiff, Nat.reduceLT, Nat.reduceEqDiff, Int.reduceEq, Int.reduceBEq, Int.reduceBNe, Int.reduceLT, Int.reduceLE, *])
    rw [append_rf2 (esz := 2) (e := tRow) (ag := true) (by_ := 32) (by kernel_rfl) (by kernel_rfl) (by kernel_rfl) rfl (by kernel_rfl) (fun x hx => (ok_rows l x hx).2.2) (hget_new _ _) (by rw [List.length_map]; omega) (by simpa using hne)]
    simp only [Nat.zero_add, List.length_map, List.nil_append, hset_new]
    repeat' (first
      | with_reducible refine cdK_splitN (fun h => ?_) (fun h => ?_)
      | with_reducible refine gdK_splitTN (fun h => ?_) (fun h => ?_)
      | with_reducible refine gdK_splitFN (fun h => ?_) (fun h => ?_)
      | with_reducible refine cdK_split (fun h => ?_) (fun h => ?_)
      | with_reducible refine gdK_splitT (fun h => ?_) (fun h => ?_)
      | with_reducible refine gdK_splitF (fun h => ?_) (fun h => ?_)
      | simp only [go_sem, Nat.reduceBEq, Nat.reduceAdd, Nat.reduceMul, Nat.reduceSub, Nat.reduceLeDiff, Nat.reduceLT, Nat.reduceEqDiff, Int.reduceEq, Int.reduceBEq, Int.reduceBNe, Int.reduceLT, Int.reduceLE, *])
theorem both_d2 (rnn : Bool) (rows : List Row) (row : Row) (hlen : rows.length ≤ 4398046511103) : DCall Try.prog 74 [.sl rnn (rows.map Row.tr), row.tr] (.sl true ((rows ++ [row]).map Row.tr)) := by
  refine dcall_mk orders Try.func74 rfl (by kernel_rfl) (fun d => d == 5 || d == 7 || d == 10) (by kernel_rfl) rfl (fun hs => ?_)
  clear hs
  repeat' (first
    | with_reducible refine cdK_splitN (fun h => ?_) (fun h => ?_)
    | with_reducible refine gdK_splitTN (fun h => ?_) (fun h => ?_)
    | with_reducible refine gdK_splitFN (fun h => ?_) (fun h => ?_)
    | with_reducible refine cdK_split (fun h => ?_) (fun h => ?_)
    | with_reducible refine gdK_splitT (fun h => ?_) (fun h => ?_)
    | with_reducible refine gdK_splitF (fun h => ?_) (fun h => ?_)
    | simp only [go_sem, Nat.reduceBEq, Nat.reduceAdd, Nat.reduceMul, Nat.reduceSub, Nat.reduceLeDiff, Nat.reduceLT, Nat.reduceEqDiff, Int.reduceEq, Int.reduceBEq, Int.reduceBNe, Int.reduceLT, Int.reduceLE, *])
  refine hpK_append_any2 (by_ := 32) (Own.fresh (l := []) (by simp)) (by kernel_rfl) (by kernel_rfl) (by kernel_rfl) rfl (by kernel_rfl) (ok_rows rows) (by simp; omega) (fun v' h' ho hf => ?_)
  repeat' (first
    | with_reducible refine cdK_splitN (fun h => ?_) (fun h => ?_)
    | with_reducible refine gdK_splitTN (fun h => ?_) (fun h => ?_)
    | with_reducible refine gdK_splitFN (fun h => ?_) (fun h => ?_)
    | with_reducible refine cdK_split (fun h => ?_) (fun h => ?_)
    | with_reducible refine gdK_splitT (fun h => ?_) (fun h => ?_)
    | with_reducible refine gdK_splitF (fun h => ?_) (fun h => ?_)
    | simp only [go_sem, Nat.reduceBEq, Nat.reduceAdd, Nat.reduceMul, Nat.reduceSub, Nat.reduceLeDiff, Nat.reduceLT, Nat.reduceEqDiff, Int.reduceEq, Int.reduceBEq, Int.reduceBNe, Int.reduceLT, Int.reduceLE, *])
  refine hpK_append_any2 (by_ := 32) ho (by kernel_rfl) (by kernel_rfl) (by kernel_rfl) rfl (by kernel_rfl) (ok_rows [row]) (by simp; omega) (fun v'' h'' ho2 hf2 => ?_)
  have hdep := ho2.dep
  repeat' (first
    | with_reducible refine cdK_splitN (fun h => ?_) (fun h => ?_)
    | with_reducible refine gdK_splitTN (fun h => ?_) (fun h => ?_)
    | with_reducible refine gdK_splitFN (fun h => ?_) (fun h => ?_)
    | with_reducible refine cdK_split (fun h => ?_) (fun h => ?_)
    | with_reducible refine gdK_splitT (fun h => ?_) (fun h => ?_)
    | with_reducible refine gdK_splitF (fun h => ?_) (fun h => ?_)
    | simp only [go_sem, Nat.reduceBEq, Nat.reduceAdd, Nat.reduceMul, Nat.reduceSub, Nat.reduceLeDiff, Nat.reduceLT, Nat.reduceEqDiff, Int.reduceEq, Int.reduceBEq, Int.reduceBNe, Int.reduceLT, Int.reduceLE, *])
  all_goals simp [Row.tr]
theorem implied_d2 (vars : Int) (rnn : Bool) (rows : List Row) (row : Row) (hlen : rows.length ≤ 4398046511103) : DCall Try.prog 68 [i64 vars, .sl rnn (rows.map Row.tr), row.tr] (i64 (sysErr vars (rows ++ [row]))) := by
  by_cases hsm : rows.length ≤ 900000
  · exact implied_d vars rnn rows row hsm
  refine dcall_wf (enters' _ (by kernel_rfl)) fun hw => ?_
  have hnil : rnn = false → rows = [] := fun h => by
    subst h
    simp [wfL, Tr.wf] at hw
    exact hw.1.1
  cases rnn with
  | false =>
    have := hnil rfl
    subst this
    simp at hsm
  | true =>
    have hc := lcheck_d vars true (rows ++ [row])
    have hi := cloneRows_i2 rows (fun _ => []) (by omega)
    clear hw hnil hsm
    refine dcall_mk orders Try.func68 rfl (by kernel_rfl) (fun d => d == 9 || d == 13) (by kernel_rfl) rfl (fun hs => ?_)
    clear hs
    repeat' (first
      | with_reducible refine cdK_splitN (fun h => ?_) (fun h => ?_)
      | with_reducible refine gdK_splitTN (fun h => ?_) (fun h => ?_)
      | with_reducible refine gdK_splitFN (fun h => ?_) (fun h => ?_)
      | with_reducible refine cdK_split (fun h => ?_) (fun h => ?_)
      | with_reducible refine gdK_splitT (fun h => ?_) (fun h => ?_)
      | with_reducible refine gdK_splitF (fun h => ?_) (fun h => ?_)
      | simp only [go_sem, Nat.reduceBEq, Nat.reduceAdd, Nat.reduceMul, Nat.reduceSub, Nat.reduceLeDiff, Nat.reduceLT, Nat.reduceEqDiff, Int.reduceEq, Int.reduceBEq, Int.reduceBNe, Int.reduceLT, Int.reduceLE, *])
    refine clK_ix hi rfl ?_
    repeat' (first
      | with_reducible refine cdK_splitN (fun h => ?_) (fun h => ?_)
      | with_reducible refine gdK_splitTN (fun h => ?_) (fun h => ?_)
      | with_reducible refine gdK_splitFN (fun h => ?_) (fun h => ?_)
      | with_reducible refine cdK_split (fun h => ?_) (fun h => ?_)
      | with_reducible refine gdK_splitT (fun h => ?_) (fun h => ?_)
      | with_reducible refine gdK_splitF (fun h => ?_) (fun h => ?_)
      | simp only [go_sem, Nat.reduceBEq, Nat.reduceAdd, Nat.reduceMul, Nat.reduceSub, Nat.reduceLeDiff, Nat.reduceLT, Nat.reduceEqDiff, Int.reduceEq, Int.reduceBEq, Int.reduceBNe, Int.reduceLT, Int.reduceLE, *])
    rw [append_rf2 (esz := 2) (e := tRow) (ag := true) (by_ := 32) (by kernel_rfl) (by kernel_rfl) (by kernel_rfl) rfl (by kernel_rfl) (fun x hx => by rw [List.mem_singleton.1 hx]; rfl) (hget_new _ _) (by simp; omega) (by simp)]
    have hcells : List.map PV.t (flat (List.map Row.tr rows)) ++ List.map PV.t (flat [Tr.agg [.sl row.nn (List.map (Tr.int .i64) row.coefs), .int .i64 row.const]]) = List.map PV.t (flat ((rows ++ [row]).map Row.tr)) := by
      rw [List.map_append, flat_append, List.map_append]; rfl
    rw [hcells, hset_new]
    have hdep : ∀ n, n = (rows ++ [row]).length → toTr (hnew (fun _ => []) 5 ⟨List.map PV.t (flat ((rows ++ [row]).map Row.tr)), 2, n, tRow, true, true⟩) dep (.rf (hnext (fun _ => []) 5) n) = some (.sl true ((rows ++ [row]).map Row.tr)) := fun n hn => toTr_flat 5 (ok_rows _) (by simp [hn]) (hget_new _ _)
    have hdep2 := hdep (rows.length + 1) (by simp)
    simp only [List.length_cons, List.length_nil]
    repeat' (first
      | with_reducible refine cdK_splitN (fun h => ?_) (fun h => ?_)
      | with_reducible refine gdK_splitTN (fun h => ?_) (fun h => ?_)
      | with_reducible refine gdK_splitFN (fun h => ?_) (fun h => ?_)
      | with_reducible refine cdK_split (fun h => ?_) (fun h => ?_)
      | with_reducible refine gdK_splitT (fun h => ?_) (fun h => ?_)
      | with_reducible refine gdK_splitF (fun h => ?_) (fun h => ?_)
      | simp only [go_sem, Nat.reduceBEq, Nat.reduceAdd, Nat.reduceMul, Nat.reduceSub, Nat.reduceLeDiff, Nat.reduceLT, Nat.reduceEqDiff, Int.reduceEq, Int.reduceBEq, Int.reduceBNe, Int.reduceLT, Int.reduceLE, *])
    refine clK_fx hc (by simp only [go_sem, Nat.reduceBEq, Nat.reduceAdd, Nat.reduceMul, Nat.reduceSub, Nat.reduceLeDiff, Nat.reduceLT, Nat.reduceEqDiff, Int.reduceEq, Int.reduceBEq, Int.reduceBNe, Int.reduceLT, Int.reduceLE, hdep2]) rfl ?_
    repeat' (first
      | with_reducible refine cdK_splitN (fun h => ?_) (fun h => ?_)
      | with_reducible refine gdK_splitTN (fun h => ?_) (fun h => ?_)
      | with_reducible refine gdK_splitFN (fun h => ?_) (fun h => ?_)
      | with_reducible refine cdK_split (fun h => ?_) (fun h => ?_)
      | with_reducible refine gdK_splitT (fun h => ?_) (fun h => ?_)
      | with_reducible refine gdK_splitF (fun h => ?_) (fun h => ?_)
      | simp only [go_sem, Nat.reduceBEq, Nat.reduceAdd, Nat.reduceMul, Nat.reduceSub, Nat.reduceLeDiff, Nat.reduceLT, Nat.reduceEqDiff, Int.reduceEq, Int.reduceBEq, Int.reduceBNe, Int.reduceLT, Int.reduceLE, *])
theorem proveError_d (vars : Int) (rnn : Bool) (rows : List Row) (row : Row) (hlen : rows.length ≤ 4398046511103) : DCall Try.prog 37 [i64 vars, .sl rnn (rows.map Row.tr), row.tr] (i64 (sysErr vars (rows ++ [row]))) := by
  have h1 := both_d2 rnn rows row hlen
  have h2 := refSys_d vars true (rows ++ [row])
  refine dcall_mk orders Try.func37 rfl (by kernel_rfl) noMu (by kernel_rfl) rfl (fun hs => ?_)
  clear hs hlen
  repeat' (first
    | with_reducible refine cdK_splitN (fun h => ?_) (fun h => ?_)
    | with_reducible refine gdK_splitTN (fun h => ?_) (fun h => ?_)
    | with_reducible refine gdK_splitFN (fun h => ?_) (fun h => ?_)
    | with_reducible refine cdK_split (fun h => ?_) (fun h => ?_)
    | with_reducible refine gdK_splitT (fun h => ?_) (fun h => ?_)
    | with_reducible refine gdK_splitF (fun h => ?_) (fun h => ?_)
    | refine clK_mk (h1) rfl ?_
    | refine clK_mk (h2) rfl ?_
    | simp only [go_sem, Nat.reduceBEq, Nat.reduceAdd, Nat.reduceMul, Nat.reduceSub, Nat.reduceLeDiff, Nat.reduceLT, Nat.reduceEqDiff, Int.reduceEq, Int.reduceBEq, Int.reduceBNe, Int.reduceLT, Int.reduceLE, *])
theorem lproves_bad2 (vars : Int) (rnn : Bool) (rows : List Row) (row : Row) (f : Cert) (hlen : rows.length ≤ 4398046511103) (he : sysErr vars (rows ++ [row]) ≠ 0) : DCall Try.prog 36 [i64 vars, .sl rnn (rows.map Row.tr), row.tr, f.tr] (.tup [.bool false, i64 (sysErr vars (rows ++ [row]))]) := by
  have hck := implied_d2 vars rnn rows row hlen
  have g : (sysErr vars (rows ++ [row]) != 0) = true := by simpa using he
  generalize sysErr vars (rows ++ [row]) = e at *
  clear he
  refine dcall_mk orders Try.func36 rfl (by kernel_rfl) (fun d => d == 12 || d == 13 || d == 33 || d == 38) (by kernel_rfl) rfl (fun hs => ?_)
  clear hs
  repeat' (first
    | with_reducible refine cdK_splitN (fun h => ?_) (fun h => ?_)
    | with_reducible refine gdK_splitTN (fun h => ?_) (fun h => ?_)
    | with_reducible refine gdK_splitFN (fun h => ?_) (fun h => ?_)
    | with_reducible refine cdK_split (fun h => ?_) (fun h => ?_)
    | with_reducible refine gdK_splitT (fun h => ?_) (fun h => ?_)
    | with_reducible refine gdK_splitF (fun h => ?_) (fun h => ?_)
    | refine clK_mk (hck) rfl ?_
    | simp only [go_sem, Nat.reduceBEq, Nat.reduceAdd, Nat.reduceMul, Nat.reduceSub, Nat.reduceLeDiff, Nat.reduceLT, Nat.reduceEqDiff, Int.reduceEq, Int.reduceBEq, Int.reduceBNe, Int.reduceLT, Int.reduceLE, *])
/-- what Proves returns, in one -/
theorem lproves_d (vars : Int) (rnn : Bool) (rows : List Row) (row : Row) (f : Cert) (hlen : rows.length ≤ 4398046511103) (hnil : f.mnn = false → f.ms = []) :
    DCall Try.prog 36 [i64 vars, .sl rnn (rows.map Row.tr), row.tr, f.tr] (.tup [.bool (lprovR vars rows row f).1, i64 (lprovR vars rows row f).2]) := by
  unfold lprovR
  by_cases he : sysErr vars (rows ++ [row]) = 0
  · rw [if_neg (fun h => h he)]
    obtain ⟨V, rfl, hS⟩ := sys_of he
    have hn := hS.n
    simp only [List.length_append, List.length_cons, List.length_nil] at hn
    obtain ⟨sc, mnn, ms⟩ := f
    simp only at hnil
    by_cases hc : okCert rows ⟨sc, mnn, ms⟩ = true
    · rw [if_pos hc]
      simp only [okCert, okMults, Bool.and_eq_true, decide_eq_true_eq, List.all_eq_true] at hc
      exact lproves_ok V rnn rows row sc mnn ms he hS hc.1.1 (by
        simp only [List.all_eq_true, List.mem_append, List.mem_singleton, decide_eq_true_eq]
        exact fun m hm => hm.elim (fun hm => hc.1.2 m hm) (fun hm => hm ▸ hc.2)) hnil
    · rw [if_neg hc]
      by_cases hl : ms.length = rows.length
      · refine lproves_big V rnn rows row sc mnn ms (by omega) he hl ?_ hnil
        rw [Bool.eq_false_iff]
        intro ha
        simp only [List.all_eq_true, List.mem_append, List.mem_singleton, decide_eq_true_eq] at ha
        exact hc (by simp only [okCert, okMults, Bool.and_eq_true, decide_eq_true_eq, List.all_eq_true]; exact ⟨⟨hl, fun m hm => ha m (.inl hm)⟩, ha sc (.inr rfl)⟩)
      · exact lproves_len V rnn rows row ⟨sc, mnn, ms⟩ (by omega) he hl
  · rw [if_pos he]
    exact lproves_bad2 vars rnn rows row f hlen he
theorem LinearProves_d (vars : Int) (rnn : Bool) (rows : List Row) (row : Row) (f : Cert) (hlen : rows.length ≤ 4398046511103) (hsc : f.scale < 18446744073709551616) (hms : ∀ m ∈ f.ms, m < 18446744073709551616) (hnil : f.mnn = false → f.ms = []) :
    DCall Try.prog 11 [i64 vars, .sl rnn (rows.map Row.tr), row.tr, f.tr] (.bool true) := by
  have h1 := lproves_d vars rnn rows row f hlen hnil
  have h2 := proveError_d vars rnn rows row hlen
  have h3 := alive25_d
  have h4 := mults_d rnn rows f.mnn f.ms
  rw [show (decide (f.ms.length = rows.length) && f.ms.all (fun m => decide (m ≤ 4611686018427387904))) = okMults rows f.ms from rfl] at h4
  unfold lprovR at h1
  by_cases he : sysErr vars (rows ++ [row]) = 0
  · obtain ⟨V, rfl, hS⟩ := sys_of he
    rw [if_neg (fun h => h he)] at h1
    rw [he] at h2
    by_cases hm : okMults rows f.ms = true
    · rw [hm] at h4
      by_cases hs2 : f.scale ≤ 4611686018427387904
      · have hm2 := okMults_of hm
        obtain ⟨hsl, hr1, hr2, hr3⟩ := hS.left
        have h5 := refProves_d V rnn rows row f hsl ⟨hr1, hr2, hr3⟩ (by omega) hms hsc
        obtain ⟨k1, k2⟩ := sums_start V rows f.ms (fun r hr => (hsl.r r hr).1)
        rw [proves_same row f.scale k1 k2] at h5
        rw [if_pos (by simp [okCert, hm, hs2])] at h1
        simp only [Int.toNat_natCast] at h1
        generalize lprovW _ _ _ = b at *
        have hg : decide ((f.scale : Int) > 4611686018427387904) = false := by simp; omega
        clear k1 k2 hm2 hS he hms hsl hr1 hr2 hr3 hnil hlen
        refine dcall_mk orders Try.func11 rfl (by kernel_rfl) noMu (by kernel_rfl) rfl (fun hs => ?_)
        clear hs
        repeat' (first
          | with_reducible refine cdK_splitN (fun h => ?_) (fun h => ?_)
          | with_reducible refine gdK_splitTN (fun h => ?_) (fun h => ?_)
          | with_reducible refine gdK_splitFN (fun h => ?_) (fun h => ?_)
          | with_reducible refine cdK_split (fun h => ?_) (fun h => ?_)
          | with_reducible refine gdK_splitT (fun h => ?_) (fun h => ?_)
          | with_reducible refine gdK_splitF (fun h => ?_) (fun h => ?_)
          | refine clK_mk (h1) rfl ?_
          | refine clK_mk (h2) rfl ?_
          | refine clK_mk (h4) rfl ?_
          | refine clK_mk (h5) rfl ?_
          | simp only [go_sem, Nat.reduceBEq, Nat.reduceAdd, Nat.reduceMul, Nat.reduceSub, Nat.reduceLeDiff, Nat.reduceLT, Nat.reduceEqDiff, Int.reduceEq, Int.reduceBEq, Int.reduceBNe, Int.reduceLT, Int.reduceLE, *, beq_self_eq_true])
      · rw [if_neg (by simp [okCert, hs2])] at h1
        have hg : decide ((f.scale : Int) > 4611686018427387904) = true := by simp; omega
        clear hS he hms hnil hlen
        refine dcall_mk orders Try.func11 rfl (by kernel_rfl) noMu (by kernel_rfl) rfl (fun hs => ?_)
        clear hs
        repeat' (first
          | with_reducible refine cdK_splitN (fun h => ?_) (fun h => ?_)
          | with_reducible refine gdK_splitTN (fun h => ?_) (fun h => ?_)
          | with_reducible refine gdK_splitFN (fun h => ?_) (fun h => ?_)
          | with_reducible refine cdK_split (fun h => ?_) (fun h => ?_)
          | with_reducible refine gdK_splitT (fun h => ?_) (fun h => ?_)
          | with_reducible refine gdK_splitF (fun h => ?_) (fun h => ?_)
          | refine clK_mk (h1) rfl ?_
          | refine clK_mk (h2) rfl ?_
          | refine clK_mk (h4) rfl ?_
          | refine clK_mk (h3) rfl ?_
          | simp only [go_sem, Nat.reduceBEq, Nat.reduceAdd, Nat.reduceMul, Nat.reduceSub, Nat.reduceLeDiff, Nat.reduceLT, Nat.reduceEqDiff, Int.reduceEq, Int.reduceBEq, Int.reduceBNe, Int.reduceLT, Int.reduceLE, *, beq_self_eq_true])
    · rw [if_neg (by simp [okCert, hm])] at h1
      have hm : okMults rows f.ms = false := by simpa using hm
      rw [hm] at h4
      clear hS he hms hnil hlen
      refine dcall_mk orders Try.func11 rfl (by kernel_rfl) noMu (by kernel_rfl) rfl (fun hs => ?_)
      clear hs
      repeat' (first
        | with_reducible refine cdK_splitN (fun h => ?_) (fun h => ?_)
        | with_reducible refine gdK_splitTN (fun h => ?_) (fun h => ?_)
        | with_reducible refine gdK_splitFN (fun h => ?_) (fun h => ?_)
        | with_reducible refine cdK_split (fun h => ?_) (fun h => ?_)
        | with_reducible refine gdK_splitT (fun h => ?_) (fun h => ?_)
        | with_reducible refine gdK_splitF (fun h => ?_) (fun h => ?_)
        | refine clK_mk (h1) rfl ?_
        | refine clK_mk (h2) rfl ?_
        | refine clK_mk (h4) rfl ?_
        | refine clK_mk (h3) rfl ?_
        | simp only [go_sem, Nat.reduceBEq, Nat.reduceAdd, Nat.reduceMul, Nat.reduceSub, Nat.reduceLeDiff, Nat.reduceLT, Nat.reduceEqDiff, Int.reduceEq, Int.reduceBEq, Int.reduceBNe, Int.reduceLT, Int.reduceLE, *, beq_self_eq_true])
  · rw [if_pos he] at h1
    simp only at h1
    have hb : (sysErr vars (rows ++ [row]) == 0) = false := by simpa using he
    have hb2 : (sysErr vars (rows ++ [row]) != 0) = true := by simpa using he
    generalize sysErr vars (rows ++ [row]) = e at *
    clear hms hnil hlen
    refine dcall_mk orders Try.func11 rfl (by kernel_rfl) noMu (by kernel_rfl) rfl (fun hs => ?_)
    clear hs
    repeat' (first
      | with_reducible refine cdK_splitN (fun h => ?_) (fun h => ?_)
      | with_reducible refine gdK_splitTN (fun h => ?_) (fun h => ?_)
      | with_reducible refine gdK_splitFN (fun h => ?_) (fun h => ?_)
      | with_reducible refine cdK_split (fun h => ?_) (fun h => ?_)
      | with_reducible refine gdK_splitT (fun h => ?_) (fun h => ?_)
      | with_reducible refine gdK_splitF (fun h => ?_) (fun h => ?_)
      | refine clK_mk (h1) rfl ?_
      | refine clK_mk (h2) rfl ?_
      | refine clK_mk (h4) rfl ?_
      | refine clK_mk (h3) rfl ?_
      | simp only [go_sem, Nat.reduceBEq, Nat.reduceAdd, Nat.reduceMul, Nat.reduceSub, Nat.reduceLeDiff, Nat.reduceLT, Nat.reduceEqDiff, Int.reduceEq, Int.reduceBEq, Int.reduceBNe, Int.reduceLT, Int.reduceLE, *, beq_self_eq_true])
end Ytajgclnahfmfmaa
end Go.Vm
