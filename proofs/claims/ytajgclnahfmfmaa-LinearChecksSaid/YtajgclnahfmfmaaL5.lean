/- Systems of inequalities: certificates, as the program checks them. -/
import Derived.Test.YtajgclnahfmfmaaL4
set_option linter.unusedSimpArgs false
set_option maxRecDepth 10000
namespace Go.Vm
open Go Go.Proofs Go.Whole
namespace Ytajgclnahfmfmaa
open Go.Proofs.Try

theorem u64_cells (ms : List Nat) (sc : Nat) : List.map PV.t (List.map u64T ms) ++ List.map PV.t (flat [Tr.int .u64 (sc : Int)]) = List.map PV.t (List.map u64T (ms ++ [sc])) := by
  rw [List.map_append, List.map_append]; rfl
theorem u64_dep (ms : List Nat) (sc : Nat) : toTr (hnew (fun _ => []) 5 ⟨List.map PV.t (List.map u64T (ms ++ [sc])), 1, ms.length + 1, 64, false, true⟩) dep (.rf (hnext (fun _ => []) 5) (ms.length + 1)) = some (.sl true ((ms ++ [sc]).map u64T)) := toTr_ints 5 (hget_new _ _)
theorem lsumR_len {V : Nat} : ∀ (rows : List Row) (ms : List Nat) (out : List WI) (last : WI), out.length = V → (∀ r ∈ rows, r.coefs.length = V) → (lsumR out last rows ms).1.length = V
  | [], ms, out, last, h, _ => by cases ms <;> exact h
  | r :: rows, [], out, last, h, _ => h
  | r :: rows, m :: ms, out, last, h, hr => by
    simp only [lsumR]
    split
    · exact lsumR_len rows ms _ _ h (fun x hx => hr x (by simp [hx]))
    · exact lsumR_len rows ms _ _ (by unfold addW; rw [List.length_zipWith, h, hr r (by simp), Nat.min_self]) (fun x hx => hr x (by simp [hx]))
theorem WI.le.mono {x : WI} {k j : Nat} (h : x.le k) (hj : k ≤ j) : x.le j := Nat.le_trans h (Nat.mul_le_mul_right _ hj)
theorem lsumR_le : ∀ (rows : List Row) (ms : List Nat) (out : List WI) (last : WI) (k : Nat), (∀ m ∈ ms, m < 18446744073709551616) → (∀ r ∈ rows, smallB r.const = true ∧ ∀ c ∈ r.coefs, smallB c = true) → (∀ x ∈ out, x.le k) → last.le k →
    (∀ x ∈ (lsumR out last rows ms).1, x.le (k + rows.length)) ∧ (lsumR out last rows ms).2.le (k + rows.length)
  | [], ms, out, last, k, _, _, h1, h2 => by cases ms <;> exact ⟨h1, h2⟩
  | r :: rows, [], out, last, k, _, _, h1, h2 => ⟨fun x hx => (h1 x hx).mono (by omega), h2.mono (by omega)⟩
  | r :: rows, m :: ms, out, last, k, hm, hr, h1, h2 => by
    have hr0 := hr r (by simp)
    have hm0 := hm m (by simp)
    simp only [lsumR, List.length_cons]
    rw [show k + (rows.length + 1) = k + 1 + rows.length by omega]
    split
    · exact lsumR_le rows ms out last (k + 1) (fun x hx => hm x (by simp [hx])) (fun x hx => hr x (by simp [hx])) (fun x hx => (h1 x hx).mono (by omega)) (h2.mono (by omega))
    · refine lsumR_le rows ms _ _ (k + 1) (fun x hx => hm x (by simp [hx])) (fun x hx => hr x (by simp [hx])) (fun z hz => ?_) (addWI_le h2 (smallB_abs hr0.1) hm0 true)
      unfold addW at hz
      rw [List.mem_iff_getElem?] at hz
      obtain ⟨j, hj⟩ := hz
      rw [List.getElem?_zipWith] at hj
      cases ho : out[j]? with
      | none => simp [ho] at hj
      | some a =>
        cases hc : r.coefs[j]? with
        | none => simp [ho, hc] at hj
        | some c =>
          simp [ho, hc] at hj
          rw [← hj]
          exact addWI_le (h1 a (List.mem_of_getElem? ho)) (smallB_abs (hr0.2 c (List.mem_of_getElem? hc))) hm0 true
theorem lproves_bad (vars : Int) (rnn : Bool) (rows : List Row) (row : Row) (f : Cert) (hlen : rows.length ≤ 900000) (he : sysErr vars (rows ++ [row]) ≠ 0) : DCall Try.prog 36 [i64 vars, .sl rnn (rows.map Row.tr), row.tr, f.tr] (.tup [.bool false, i64 (sysErr vars (rows ++ [row]))]) := by
  have hck := implied_d vars rnn rows row hlen
  have g : (sysErr vars (rows ++ [row]) != 0) = true := by simpa using he
  generalize sysErr vars (rows ++ [row]) = e at *
  clear he
  refine dcall_mk orders Try.func36 rfl (by kernel_rfl) (fun d => d == 12 || d == 13 || d == 33 || d == 38) (by kernel_rfl) rfl (fun hs => ?_)
  clear hs
  repeat' (first
    | with_reducible refine cdK_splitN (fun h => ?_) (fun h => ?_)
    | with_reducible refine gdK_splitTN (fun h => ?_) (fun h => ?_)
    | with_reducible refine gdK_splitFN (fun h => ?_) (fun h => ?_)
    | with_reducible refine cdK_split (fun h => ?_) (fun h => ?_)
    | with_reducible refine gdK_splitT (fun h => ?_) (fun h => ?_)
    | with_reducible refine gdK_splitF (fun h => ?_) (fun h => ?_)
    | refine clK_mk (hck) rfl ?_
    | simp only [go_sem, Nat.reduceBEq, Nat.reduceAdd, Nat.reduceMul, Nat.reduceSub, Nat.reduceLeDiff, Nat.reduceLT, Nat.reduceEqDiff, Int.reduceEq, Int.reduceBEq, Int.reduceBNe, Int.reduceLT, Int.reduceLE, *])
theorem lproves_len (vars : Int) (rnn : Bool) (rows : List Row) (row : Row) (f : Cert) (hlen : rows.length ≤ 900000) (he : sysErr vars (rows ++ [row]) = 0) (hl : f.ms.length ≠ rows.length) : DCall Try.prog 36 [i64 vars, .sl rnn (rows.map Row.tr), row.tr, f.tr] (.tup [.bool false, i64 2]) := by
  have hck := implied_d vars rnn rows row hlen
  rw [he] at hck
  have g1 : ((f.ms.length : Int) != (rows.length : Int)) = true := by simpa using fun h => hl (by omega)
  clear he hl
  refine dcall_mk orders Try.func36 rfl (by kernel_rfl) (fun d => d == 12 || d == 13 || d == 33 || d == 38) (by kernel_rfl) rfl (fun hs => ?_)
  clear hs
  repeat' (first
    | with_reducible refine cdK_splitN (fun h => ?_) (fun h => ?_)
    | with_reducible refine gdK_splitTN (fun h => ?_) (fun h => ?_)
    | with_reducible refine gdK_splitFN (fun h => ?_) (fun h => ?_)
    | with_reducible refine cdK_split (fun h => ?_) (fun h => ?_)
    | with_reducible refine gdK_splitT (fun h => ?_) (fun h => ?_)
    | with_reducible refine gdK_splitF (fun h => ?_) (fun h => ?_)
    | refine clK_mk (hck) rfl ?_
    | simp only [go_sem, Nat.reduceBEq, Nat.reduceAdd, Nat.reduceMul, Nat.reduceSub, Nat.reduceLeDiff, Nat.reduceLT, Nat.reduceEqDiff, Int.reduceEq, Int.reduceBEq, Int.reduceBNe, Int.reduceLT, Int.reduceLE, *])
theorem lproves_big (vars : Int) (rnn : Bool) (rows : List Row) (row : Row) (sc : Nat) (mnn : Bool) (ms : List Nat) (hlen : rows.length ≤ 900000) (he : sysErr vars (rows ++ [row]) = 0) (hl : ms.length = rows.length) (ha : (ms ++ [sc]).all (fun m => decide (m ≤ 4611686018427387904)) = false) (hnil : mnn = false → ms = []) : DCall Try.prog 36 [i64 vars, .sl rnn (rows.map Row.tr), row.tr, (⟨sc, mnn, ms⟩ : Cert).tr] (.tup [.bool false, i64 2]) := by
  have hck := implied_d vars rnn rows row hlen
  rw [he] at hck
  have hmu := multipliers_d rnn rows true (ms ++ [sc])
  rw [if_neg (by simp [ha])] at hmu
  have g1 : ((ms.length : Int) != (rows.length : Int)) = false := by simp; omega
  have hml : ms.length ≤ 900000 := by omega
  clear he hl ha hlen
  cases mnn with
  | false =>
    have := hnil rfl
    subst this
    clear hnil
    simp only [List.nil_append, List.map_cons, List.map_nil] at hmu
    refine dcall_mk orders Try.func36 rfl (by kernel_rfl) (fun d => d == 12 || d == 13 || d == 33 || d == 38) (by kernel_rfl) rfl (fun hs => ?_)
    clear hs
    repeat' (first
      | with_reducible refine cdK_splitN (fun h => ?_) (fun h => ?_)
      | with_reducible refine gdK_splitTN (fun h => ?_) (fun h => ?_)
      | with_reducible refine gdK_splitFN (fun h => ?_) (fun h => ?_)
      | with_reducible refine cdK_split (fun h => ?_) (fun h => ?_)
      | with_reducible refine gdK_splitT (fun h => ?_) (fun h => ?_)
      | with_reducible refine gdK_splitF (fun h => ?_) (fun h => ?_)
      | refine clK_mk (hck) rfl ?_
      | simp only [go_sem, Nat.reduceBEq, Nat.reduceAdd, Nat.reduceMul, Nat.reduceSub, Nat.reduceLeDiff, Nat.reduceLT, Nat.reduceEqDiff, Int.reduceEq, Int.reduceBEq, Int.reduceBNe, Int.reduceLT, Int.reduceLE, *])
    refine clK_ix (cloneU64_nil _) rfl ?_
    repeat' (first
      | with_reducible refine cdK_splitN (fun h => ?_) (fun h => ?_)
      | with_reducible refine gdK_splitTN (fun h => ?_) (fun h => ?_)
      | with_reducible refine gdK_splitFN (fun h => ?_) (fun h => ?_)
      | with_reducible refine cdK_split (fun h => ?_) (fun h => ?_)
      | with_reducible refine gdK_splitT (fun h => ?_) (fun h => ?_)
      | with_reducible refine gdK_splitF (fun h => ?_) (fun h => ?_)
      | simp only [go_sem, Nat.reduceBEq, Nat.reduceAdd, Nat.reduceMul, Nat.reduceSub, Nat.reduceLeDiff, Nat.reduceLT, Nat.reduceEqDiff, Int.reduceEq, Int.reduceBEq, Int.reduceBNe, Int.reduceLT, Int.reduceLE, *])
    rw [append_nilT (esz := 1) (e := 64) (by kernel_rfl) (by kernel_rfl) (by kernel_rfl) rfl (by kernel_rfl) (fun x hx => by rw [List.mem_singleton.1 hx]; rfl) (by simp) (by simp)]
    simp only [flat_cons, show flat [] = [] from rfl]
    repeat' (first
      | with_reducible refine cdK_splitN (fun h => ?_) (fun h => ?_)
      | with_reducible refine gdK_splitTN (fun h => ?_) (fun h => ?_)
      | with_reducible refine gdK_splitFN (fun h => ?_) (fun h => ?_)
      | with_reducible refine cdK_split (fun h => ?_) (fun h => ?_)
      | with_reducible refine gdK_splitT (fun h => ?_) (fun h => ?_)
      | with_reducible refine gdK_splitF (fun h => ?_) (fun h => ?_)
      | refine clK_mk (hmu) rfl ?_
      | simp only [go_sem, Nat.reduceBEq, Nat.reduceAdd, Nat.reduceMul, Nat.reduceSub, Nat.reduceLeDiff, Nat.reduceLT, Nat.reduceEqDiff, Int.reduceEq, Int.reduceBEq, Int.reduceBNe, Int.reduceLT, Int.reduceLE, *])
  | true =>
    clear hnil
    have hi := cloneU64_i' ms (fun _ => []) (by omega)
    refine dcall_mk orders Try.func36 rfl (by kernel_rfl) (fun d => d == 12 || d == 13 || d == 33 || d == 38) (by kernel_rfl) rfl (fun hs => ?_)
    clear hs
    repeat' (first
      | with_reducible refine cdK_splitN (fun h => ?_) (fun h => ?_)
      | with_reducible refine gdK_splitTN (fun h => ?_) (fun h => ?_)
      | with_reducible refine gdK_splitFN (fun h => ?_) (fun h => ?_)
      | with_reducible refine cdK_split (fun h => ?_) (fun h => ?_)
      | with_reducible refine gdK_splitT (fun h => ?_) (fun h => ?_)
      | with_reducible refine gdK_splitF (fun h => ?_) (fun h => ?_)
      | refine clK_mk (hck) rfl ?_
      | simp only [go_sem, Nat.reduceBEq, Nat.reduceAdd, Nat.reduceMul, Nat.reduceSub, Nat.reduceLeDiff, Nat.reduceLT, Nat.reduceEqDiff, Int.reduceEq, Int.reduceBEq, Int.reduceBNe, Int.reduceLT, Int.reduceLE, *])
    refine clK_ix hi rfl ?_
    repeat' (first
      | with_reducible refine cdK_splitN (fun h => ?_) (fun h => ?_)
      | with_reducible refine gdK_splitTN (fun h => ?_) (fun h => ?_)
      | with_reducible refine gdK_splitFN (fun h => ?_) (fun h => ?_)
      | with_reducible refine cdK_split (fun h => ?_) (fun h => ?_)
      | with_reducible refine gdK_splitT (fun h => ?_) (fun h => ?_)
      | with_reducible refine gdK_splitF (fun h => ?_) (fun h => ?_)
      | simp only [go_sem, Nat.reduceBEq, Nat.reduceAdd, Nat.reduceMul, Nat.reduceSub, Nat.reduceLeDiff, Nat.reduceLT, Nat.reduceEqDiff, Int.reduceEq, Int.reduceBEq, Int.reduceBNe, Int.reduceLT, Int.reduceLE, *])
    rw [append_rf (esz := 1) (e := 64) (ag := false) (by kernel_rfl) (by kernel_rfl) (by kernel_rfl) rfl (by kernel_rfl) (fun x hx => by rw [List.mem_singleton.1 hx]; rfl) (hget_new _ _) (by simp; omega) (by simp)]
    rw [u64_cells, hset_new]
    have hdep2 := u64_dep ms sc
    simp only [List.length_cons, List.length_nil]
    repeat' (first
      | with_reducible refine cdK_splitN (fun h => ?_) (fun h => ?_)
      | with_reducible refine gdK_splitTN (fun h => ?_) (fun h => ?_)
      | with_reducible refine gdK_splitFN (fun h => ?_) (fun h => ?_)
      | with_reducible refine cdK_split (fun h => ?_) (fun h => ?_)
      | with_reducible refine gdK_splitT (fun h => ?_) (fun h => ?_)
      | with_reducible refine gdK_splitF (fun h => ?_) (fun h => ?_)
      | simp only [go_sem, Nat.reduceBEq, Nat.reduceAdd, Nat.reduceMul, Nat.reduceSub, Nat.reduceLeDiff, Nat.reduceLT, Nat.reduceEqDiff, Int.reduceEq, Int.reduceBEq, Int.reduceBNe, Int.reduceLT, Int.reduceLE, *])
    refine clK_fx hmu (by simp only [go_sem, Nat.reduceBEq, Nat.reduceAdd, Nat.reduceMul, Nat.reduceSub, Nat.reduceLeDiff, Nat.reduceLT, Nat.reduceEqDiff, Int.reduceEq, Int.reduceBEq, Int.reduceBNe, Int.reduceLT, Int.reduceLE, hdep2]) rfl ?_
    repeat' (first
      | with_reducible refine cdK_splitN (fun h => ?_) (fun h => ?_)
      | with_reducible refine gdK_splitTN (fun h => ?_) (fun h => ?_)
      | with_reducible refine gdK_splitFN (fun h => ?_) (fun h => ?_)
      | with_reducible refine cdK_split (fun h => ?_) (fun h => ?_)
      | with_reducible refine gdK_splitT (fun h => ?_) (fun h => ?_)
      | with_reducible refine gdK_splitF (fun h => ?_) (fun h => ?_)
      | simp only [go_sem, Nat.reduceBEq, Nat.reduceAdd, Nat.reduceMul, Nat.reduceSub, Nat.reduceLeDiff, Nat.reduceLT, Nat.reduceEqDiff, Int.reduceEq, Int.reduceBEq, Int.reduceBNe, Int.reduceLT, Int.reduceLE, *])
set_option maxHeartbeats 2000000 in
theorem lproves_ok (V : Nat) (rnn : Bool) (rows : List Row) (row : Row) (sc : Nat) (mnn : Bool) (ms : List Nat) (he : sysErr V (rows ++ [row]) = 0) (hsy : Sys V (rows ++ [row])) (hl : ms.length = rows.length) (ha : (ms ++ [sc]).all (fun m => decide (m ≤ 4611686018427387904)) = true) (hnil : mnn = false → ms = []) :
    DCall Try.prog 36 [i64 V, .sl rnn (rows.map Row.tr), row.tr, (⟨sc, mnn, ms⟩ : Cert).tr] (.tup [.bool (lprovW (lsumR (List.replicate V zW) ⟨true, 0⟩ rows ms) row sc), i64 0]) := by
  obtain ⟨hsl, hr1, hr2, hr3⟩ := hsy.left
  have hck := implied_d V rnn rows row (by have := hsl.n; omega)
  rw [he] at hck
  have hmu := multipliers_d rnn rows true (ms ++ [sc])
  rw [if_pos ha] at hmu
  have hb : (∀ m ∈ ms, m < 18446744073709551616) ∧ sc < 18446744073709551616 := by
    simp [List.all_eq_true] at ha
    exact ⟨fun m hm => by have := ha.1 m hm; omega, by omega⟩
  have g1 : ((ms.length : Int) != (rows.length : Int)) = false := by simp; omega
  have hml : ms.length ≤ 256 := by have := hsl.n; omega
  have hsm := lsum_d V rnn rows mnn ms hsl.v hsl.n (by omega) hb.1 hsl.r
  have hlen := lsumR_len rows ms (List.replicate V zW) ⟨true, 0⟩ (by simp) (fun r hr => (hsl.r r hr).1)
  obtain ⟨hle1, hle2⟩ := lsumR_le rows ms (List.replicate V zW) ⟨true, 0⟩ 0 hb.1 (fun r hr => (hsl.r r hr).2) (fun x hx => by rw [(List.mem_replicate.1 hx).2]; exact zW_le _ 0) (zW_le _ 0)
  rw [Nat.zero_add] at hle1 hle2
  have hn := hsl.n
  have hco := contradicts_d true (lsumR (List.replicate V zW) ⟨true, 0⟩ rows ms).1 (lsumR (List.replicate V zW) ⟨true, 0⟩ rows ms).2
  have hvv := hsl.v
  clear he hsy hl ha hsl
  generalize lsumR (List.replicate V zW) ⟨true, 0⟩ rows ms = R at *
  obtain ⟨out, last⟩ := R
  simp only at hsm hle1 hle2 hlen hco
  have hol1 : row.coefs.length ≤ out.length := by omega
  have hol2 : out.length ≤ row.coefs.length := by omega
  have hol3 : row.coefs.length ≤ 256 := by omega
  clear hlen hr1
  have hfs : fits (sc : Int) := Nat.le_trans (digs64 (m := sc) hb.2) (by decide)
  by_cases h0 : sc = 0
  · subst h0
    rw [show lprovW (out, last) row 0 = contraW out last from if_pos rfl]
    have g2 : (((0 : Nat) : Int) == 0) = true := rfl
    clear hle1 hle2 hfs
    cases mnn with
    | false =>
      have hne := hnil rfl
      subst hne
      clear hnil
      simp only [List.nil_append, List.map_cons, List.map_nil] at hmu
      simp only [List.length_nil] at g1
      refine dcall_mk orders Try.func36 rfl (by kernel_rfl) (fun d => d == 12 || d == 13 || d == 33 || d == 38) (by kernel_rfl) rfl (fun hs => ?_)
      clear hs
      repeat' (first
        | with_reducible refine cdK_splitN (fun h => ?_) (fun h => ?_)
        | with_reducible refine gdK_splitTN (fun h => ?_) (fun h => ?_)
        | with_reducible refine gdK_splitFN (fun h => ?_) (fun h => ?_)
        | with_reducible refine cdK_split (fun h => ?_) (fun h => ?_)
        | with_reducible refine gdK_splitT (fun h => ?_) (fun h => ?_)
        | with_reducible refine gdK_splitF (fun h => ?_) (fun h => ?_)
        | refine clK_mk (hck) rfl ?_
        | simp only [go_sem, Nat.reduceBEq, Nat.reduceAdd, Nat.reduceMul, Nat.reduceSub, Nat.reduceLeDiff, Nat.reduceLT, Nat.reduceEqDiff, Int.reduceEq, Int.reduceBEq, Int.reduceBNe, Int.reduceLT, Int.reduceLE, *])
      refine clK_ix (cloneU64_nil _) rfl ?_
      repeat' (first
        | with_reducible refine cdK_splitN (fun h => ?_) (fun h => ?_)
        | with_reducible refine gdK_splitTN (fun h => ?_) (fun h => ?_)
        | with_reducible refine gdK_splitFN (fun h => ?_) (fun h => ?_)
        | with_reducible refine cdK_split (fun h => ?_) (fun h => ?_)
        | with_reducible refine gdK_splitT (fun h => ?_) (fun h => ?_)
        | with_reducible refine gdK_splitF (fun h => ?_) (fun h => ?_)
        | simp only [go_sem, Nat.reduceBEq, Nat.reduceAdd, Nat.reduceMul, Nat.reduceSub, Nat.reduceLeDiff, Nat.reduceLT, Nat.reduceEqDiff, Int.reduceEq, Int.reduceBEq, Int.reduceBNe, Int.reduceLT, Int.reduceLE, *])
      rw [append_nilT (esz := 1) (e := 64) (by kernel_rfl) (by kernel_rfl) (by kernel_rfl) rfl (by kernel_rfl) (fun x hx => by rw [List.mem_singleton.1 hx]; rfl) (by simp) (by simp)]
      simp only [flat_cons, show flat [] = [] from rfl]
      repeat' (first
        | with_reducible refine cdK_splitN (fun h => ?_) (fun h => ?_)
        | with_reducible refine gdK_splitTN (fun h => ?_) (fun h => ?_)
        | with_reducible refine gdK_splitFN (fun h => ?_) (fun h => ?_)
        | with_reducible refine cdK_split (fun h => ?_) (fun h => ?_)
        | with_reducible refine gdK_splitT (fun h => ?_) (fun h => ?_)
        | with_reducible refine gdK_splitF (fun h => ?_) (fun h => ?_)
        | refine clK_mk (hmu) rfl ?_
        | refine clK_mk (hsm) rfl ?_
        | refine clK_mk (hco) rfl ?_
        | simp only [go_sem, Nat.reduceBEq, Nat.reduceAdd, Nat.reduceMul, Nat.reduceSub, Nat.reduceLeDiff, Nat.reduceLT, Nat.reduceEqDiff, Int.reduceEq, Int.reduceBEq, Int.reduceBNe, Int.reduceLT, Int.reduceLE, *])
    | true =>
      clear hnil
      have hi := cloneU64_i' ms (fun _ => []) (by omega)
      refine dcall_mk orders Try.func36 rfl (by kernel_rfl) (fun d => d == 12 || d == 13 || d == 33 || d == 38) (by kernel_rfl) rfl (fun hs => ?_)
      clear hs
      repeat' (first
        | with_reducible refine cdK_splitN (fun h => ?_) (fun h => ?_)
        | with_reducible refine gdK_splitTN (fun h => ?_) (fun h => ?_)
        | with_reducible refine gdK_splitFN (fun h => ?_) (fun h => ?_)
        | with_reducible refine cdK_split (fun h => ?_) (fun h => ?_)
        | with_reducible refine gdK_splitT (fun h => ?_) (fun h => ?_)
        | with_reducible refine gdK_splitF (fun h => ?_) (fun h => ?_)
        | refine clK_mk (hck) rfl ?_
        | simp only [go_sem, Nat.reduceBEq, Nat.reduceAdd, Nat.reduceMul, Nat.reduceSub, Nat.reduceLeDiff, Nat.reduceLT, Nat.reduceEqDiff, Int.reduceEq, Int.reduceBEq, Int.reduceBNe, Int.reduceLT, Int.reduceLE, *])
      refine clK_ix hi rfl ?_
      repeat' (first
        | with_reducible refine cdK_splitN (fun h => ?_) (fun h => ?_)
        | with_reducible refine gdK_splitTN (fun h => ?_) (fun h => ?_)
        | with_reducible refine gdK_splitFN (fun h => ?_) (fun h => ?_)
        | with_reducible refine cdK_split (fun h => ?_) (fun h => ?_)
        | with_reducible refine gdK_splitT (fun h => ?_) (fun h => ?_)
        | with_reducible refine gdK_splitF (fun h => ?_) (fun h => ?_)
        | simp only [go_sem, Nat.reduceBEq, Nat.reduceAdd, Nat.reduceMul, Nat.reduceSub, Nat.reduceLeDiff, Nat.reduceLT, Nat.reduceEqDiff, Int.reduceEq, Int.reduceBEq, Int.reduceBNe, Int.reduceLT, Int.reduceLE, *])
      rw [append_rf (esz := 1) (e := 64) (ag := false) (by kernel_rfl) (by kernel_rfl) (by kernel_rfl) rfl (by kernel_rfl) (fun x hx => by rw [List.mem_singleton.1 hx]; rfl) (hget_new _ _) (by simp; omega) (by simp)]
      rw [u64_cells, hset_new]
      have hdep2 := u64_dep ms 0
      simp only [List.length_cons, List.length_nil]
      repeat' (first
        | with_reducible refine cdK_splitN (fun h => ?_) (fun h => ?_)
        | with_reducible refine gdK_splitTN (fun h => ?_) (fun h => ?_)
        | with_reducible refine gdK_splitFN (fun h => ?_) (fun h => ?_)
        | with_reducible refine cdK_split (fun h => ?_) (fun h => ?_)
        | with_reducible refine gdK_splitT (fun h => ?_) (fun h => ?_)
        | with_reducible refine gdK_splitF (fun h => ?_) (fun h => ?_)
        | simp only [go_sem, Nat.reduceBEq, Nat.reduceAdd, Nat.reduceMul, Nat.reduceSub, Nat.reduceLeDiff, Nat.reduceLT, Nat.reduceEqDiff, Int.reduceEq, Int.reduceBEq, Int.reduceBNe, Int.reduceLT, Int.reduceLE, *])
      refine clK_fx hmu (by simp only [go_sem, Nat.reduceBEq, Nat.reduceAdd, Nat.reduceMul, Nat.reduceSub, Nat.reduceLeDiff, Nat.reduceLT, Nat.reduceEqDiff, Int.reduceEq, Int.reduceBEq, Int.reduceBNe, Int.reduceLT, Int.reduceLE, hdep2]) rfl ?_
      clear hdep2
      repeat' (first
        | with_reducible refine cdK_splitN (fun h => ?_) (fun h => ?_)
        | with_reducible refine gdK_splitTN (fun h => ?_) (fun h => ?_)
        | with_reducible refine gdK_splitFN (fun h => ?_) (fun h => ?_)
        | with_reducible refine cdK_split (fun h => ?_) (fun h => ?_)
        | with_reducible refine gdK_splitT (fun h => ?_) (fun h => ?_)
        | with_reducible refine gdK_splitF (fun h => ?_) (fun h => ?_)
        | refine clK_mk (hsm) rfl ?_
        | refine clK_mk (hco) rfl ?_
        | simp only [go_sem, Nat.reduceBEq, Nat.reduceAdd, Nat.reduceMul, Nat.reduceSub, Nat.reduceLeDiff, Nat.reduceLT, Nat.reduceEqDiff, Int.reduceEq, Int.reduceBEq, Int.reduceBNe, Int.reduceLT, Int.reduceLE, *])
  · rw [show lprovW (out, last) row sc = (eqW out row.coefs sc && decide (last.z ≤ sc * row.const)) from if_neg h0]
    have g2 : ((sc : Int) == 0) = false := by simpa using h0
    have hfr := from_d sc hb.2
    cases mnn with
    | false =>
      have hne := hnil rfl
      subst hne
      clear hnil
      simp only [List.nil_append, List.map_cons, List.map_nil] at hmu
      simp only [List.length_nil] at g1
      refine dcall_mk orders Try.func36 rfl (by kernel_rfl) (fun d => d == 12 || d == 13 || d == 33 || d == 38) (by kernel_rfl) rfl (fun hs => ?_)
      clear hs
      repeat' (first
        | with_reducible refine cdK_splitN (fun h => ?_) (fun h => ?_)
        | with_reducible refine gdK_splitTN (fun h => ?_) (fun h => ?_)
        | with_reducible refine gdK_splitFN (fun h => ?_) (fun h => ?_)
        | with_reducible refine cdK_split (fun h => ?_) (fun h => ?_)
        | with_reducible refine gdK_splitT (fun h => ?_) (fun h => ?_)
        | with_reducible refine gdK_splitF (fun h => ?_) (fun h => ?_)
        | refine clK_mk (hck) rfl ?_
        | simp only [go_sem, Nat.reduceBEq, Nat.reduceAdd, Nat.reduceMul, Nat.reduceSub, Nat.reduceLeDiff, Nat.reduceLT, Nat.reduceEqDiff, Int.reduceEq, Int.reduceBEq, Int.reduceBNe, Int.reduceLT, Int.reduceLE, *])
      refine clK_ix (cloneU64_nil _) rfl ?_
      repeat' (first
        | with_reducible refine cdK_splitN (fun h => ?_) (fun h => ?_)
        | with_reducible refine gdK_splitTN (fun h => ?_) (fun h => ?_)
        | with_reducible refine gdK_splitFN (fun h => ?_) (fun h => ?_)
        | with_reducible refine cdK_split (fun h => ?_) (fun h => ?_)
        | with_reducible refine gdK_splitT (fun h => ?_) (fun h => ?_)
        | with_reducible refine gdK_splitF (fun h => ?_) (fun h => ?_)
        | simp only [go_sem, Nat.reduceBEq, Nat.reduceAdd, Nat.reduceMul, Nat.reduceSub, Nat.reduceLeDiff, Nat.reduceLT, Nat.reduceEqDiff, Int.reduceEq, Int.reduceBEq, Int.reduceBNe, Int.reduceLT, Int.reduceLE, *])
      rw [append_nilT (esz := 1) (e := 64) (by kernel_rfl) (by kernel_rfl) (by kernel_rfl) rfl (by kernel_rfl) (fun x hx => by rw [List.mem_singleton.1 hx]; rfl) (by simp) (by simp)]
      simp only [flat_cons, show flat [] = [] from rfl]
      repeat' (first
        | with_reducible refine cdK_splitN (fun h => ?_) (fun h => ?_)
        | with_reducible refine gdK_splitTN (fun h => ?_) (fun h => ?_)
        | with_reducible refine gdK_splitFN (fun h => ?_) (fun h => ?_)
        | with_reducible refine cdK_split (fun h => ?_) (fun h => ?_)
        | with_reducible refine gdK_splitT (fun h => ?_) (fun h => ?_)
        | with_reducible refine gdK_splitF (fun h => ?_) (fun h => ?_)
        | refine clK_mk (hmu) rfl ?_
        | refine clK_mk (hsm) rfl ?_
        | refine clK_mk (hfr) rfl ?_
        | simp only [go_sem, Nat.reduceBEq, Nat.reduceAdd, Nat.reduceMul, Nat.reduceSub, Nat.reduceLeDiff, Nat.reduceLT, Nat.reduceEqDiff, Int.reduceEq, Int.reduceBEq, Int.reduceBNe, Int.reduceLT, Int.reduceLE, *])
      refine loop_range row.coefs (fun k s' => hget s'.hp (12, 0) = some ⟨last.cs.map .t, 2, 1, tWInt, true, true⟩ ∧ hget s'.hp (13, 0) = some ⟨(intC true sc).map .t, 2, 1, tWInt, true, true⟩ ∧ eqW out row.coefs sc = eqW (out.drop k) (row.coefs.drop k) sc) rfl rfl (by first | assumption | omega) (by kernel_rfl) (fun _ _ _ _ hj => hj) (fun _ _ _ hj => hj) ?_ (fun k x s' hx hd hk hJ hix hfr G hG => ?_) (fun s' hJ hfr => ?_)
      · exact ⟨rfl, rfl, rfl⟩
      · have c11 := hfr 11 (by kernel_rfl)
        have c13 := hfr 13 (by kernel_rfl)
        have c59 := hfr 59 (by kernel_rfl)
        clear hfr
        simp only [go_sem, Nat.reduceBEq, Nat.reduceAdd, Nat.reduceMul, Nat.reduceSub, Nat.reduceLeDiff, Nat.reduceLT, Nat.reduceEqDiff, Int.reduceEq, Int.reduceBEq, Int.reduceBNe, Int.reduceLT, Int.reduceLE] at c11 c13 c59
        change _ = PV.ad (13, 0) 1 0 at c13
        obtain ⟨h12, h13, hJ⟩ := hJ
        obtain ⟨y, hy, hyd⟩ := get_of_lt out k (by omega)
        have hxs := smallB_abs (hr3 x (List.mem_of_getElem? hx))
        rw [hd, hyd, eqW] at hJ
        have hyf := (hle1 y (List.mem_of_getElem? hy)).fits (by omega)
        have ox := of_d x ⟨by omega, by omega⟩
        have mx := mul_d true true (sc : Int) x hfs (fits_i64 ⟨by omega, by omega⟩)
        have cx := cmp_d y.nn true y.z ((sc : Int) * x) hyf (mul_fits hxs hb.2)
        by_cases hyz : y.z = sc * x
        · rw [decide_eq_true hyz, Bool.true_and] at hJ
          rw [hyz, Int.sub_self, show Int.sign 0 = 0 from rfl] at cx
          clear hyf hxs
          repeat' (first
            | with_reducible refine cdK_splitN (fun h => ?_) (fun h => ?_)
            | with_reducible refine gdK_splitTN (fun h => ?_) (fun h => ?_)
            | with_reducible refine gdK_splitFN (fun h => ?_) (fun h => ?_)
            | with_reducible refine cdK_split (fun h => ?_) (fun h => ?_)
            | with_reducible refine gdK_splitT (fun h => ?_) (fun h => ?_)
            | with_reducible refine gdK_splitF (fun h => ?_) (fun h => ?_)
            | refine clK_mk (ox) rfl ?_
            | refine clK_mk (mx) rfl ?_
            | refine clK_mk (cx) rfl ?_
            | simp only [go_sem, Nat.reduceBEq, Nat.reduceAdd, Nat.reduceMul, Nat.reduceSub, Nat.reduceLeDiff, Nat.reduceLT, Nat.reduceEqDiff, Int.reduceEq, Int.reduceBEq, Int.reduceBNe, Int.reduceLT, Int.reduceLE, *])
          all_goals exact hG _ ⟨by simp only [go_sem, Nat.reduceBEq, Nat.reduceAdd, Nat.reduceMul, Nat.reduceSub, Nat.reduceLeDiff, Nat.reduceLT, Nat.reduceEqDiff, Int.reduceEq, Int.reduceBEq, Int.reduceBNe, Int.reduceLT, Int.reduceLE, h12], by simp only [go_sem, Nat.reduceBEq, Nat.reduceAdd, Nat.reduceMul, Nat.reduceSub, Nat.reduceLeDiff, Nat.reduceLT, Nat.reduceEqDiff, Int.reduceEq, Int.reduceBEq, Int.reduceBNe, Int.reduceLT, Int.reduceLE, h13], hJ⟩
        · rw [decide_eq_false hyz, Bool.false_and] at hJ
          have g5 : ((y.z - sc * x).sign != 0) = true := by
            simp [Int.sign_eq_zero_iff_zero]; omega
          generalize (y.z - sc * x).sign = sg at *
          clear hyf hxs hyz
          repeat' (first
            | with_reducible refine cdK_splitN (fun h => ?_) (fun h => ?_)
            | with_reducible refine gdK_splitTN (fun h => ?_) (fun h => ?_)
            | with_reducible refine gdK_splitFN (fun h => ?_) (fun h => ?_)
            | with_reducible refine cdK_split (fun h => ?_) (fun h => ?_)
            | with_reducible refine gdK_splitT (fun h => ?_) (fun h => ?_)
            | with_reducible refine gdK_splitF (fun h => ?_) (fun h => ?_)
            | refine clK_mk (ox) rfl ?_
            | refine clK_mk (mx) rfl ?_
            | refine clK_mk (cx) rfl ?_
            | simp only [go_sem, Nat.reduceBEq, Nat.reduceAdd, Nat.reduceMul, Nat.reduceSub, Nat.reduceLeDiff, Nat.reduceLT, Nat.reduceEqDiff, Int.reduceEq, Int.reduceBEq, Int.reduceBNe, Int.reduceLT, Int.reduceLE, *])
      · have c6 := hfr 6 (by kernel_rfl)
        have c12 := hfr 12 (by kernel_rfl)
        have c13 := hfr 13 (by kernel_rfl)
        clear hfr
        simp only [go_sem, Nat.reduceBEq, Nat.reduceAdd, Nat.reduceMul, Nat.reduceSub, Nat.reduceLeDiff, Nat.reduceLT, Nat.reduceEqDiff, Int.reduceEq, Int.reduceBEq, Int.reduceBNe, Int.reduceLT, Int.reduceLE] at c6 c12 c13
        change _ = PV.ad (12, 0) 1 0 at c12
        change _ = PV.ad (13, 0) 1 0 at c13
        obtain ⟨h12, h13, hJ⟩ := hJ
        have hJ' : eqW out row.coefs sc = true := by rw [hJ, List.drop_length]; cases hdd : out.drop row.coefs.length <;> rfl
        rw [hJ', Bool.true_and]
        have hcs := smallB_abs hr2
        have ox := of_d row.const ⟨by omega, by omega⟩
        have mx := mul_d true true (sc : Int) row.const hfs (fits_i64 ⟨by omega, by omega⟩)
        have cx := cmp_d last.nn true last.z ((sc : Int) * row.const) (hle2.fits (by omega)) (mul_fits hcs hb.2)
        have g6 : decide ((last.z - sc * row.const).sign ≤ 0) = decide (last.z ≤ sc * row.const) := by
          rw [Bool.eq_iff_iff, decide_eq_true_iff, decide_eq_true_iff, Int.sign_nonpos_iff]; omega
        clear hJ hJ' hcs
        repeat' (first
          | with_reducible refine cdK_splitN (fun h => ?_) (fun h => ?_)
          | with_reducible refine gdK_splitTN (fun h => ?_) (fun h => ?_)
          | with_reducible refine gdK_splitFN (fun h => ?_) (fun h => ?_)
          | with_reducible refine cdK_split (fun h => ?_) (fun h => ?_)
          | with_reducible refine gdK_splitT (fun h => ?_) (fun h => ?_)
          | with_reducible refine gdK_splitF (fun h => ?_) (fun h => ?_)
          | refine clK_mk (ox) rfl ?_
          | refine clK_mk (mx) rfl ?_
          | refine clK_mk (cx) rfl ?_
          | simp only [go_sem, Nat.reduceBEq, Nat.reduceAdd, Nat.reduceMul, Nat.reduceSub, Nat.reduceLeDiff, Nat.reduceLT, Nat.reduceEqDiff, Int.reduceEq, Int.reduceBEq, Int.reduceBNe, Int.reduceLT, Int.reduceLE, *])
    | true =>
      clear hnil
      have hi := cloneU64_i' ms (fun _ => []) (by omega)
      refine dcall_mk orders Try.func36 rfl (by kernel_rfl) (fun d => d == 12 || d == 13 || d == 33 || d == 38) (by kernel_rfl) rfl (fun hs => ?_)
      clear hs
      repeat' (first
        | with_reducible refine cdK_splitN (fun h => ?_) (fun h => ?_)
        | with_reducible refine gdK_splitTN (fun h => ?_) (fun h => ?_)
        | with_reducible refine gdK_splitFN (fun h => ?_) (fun h => ?_)
        | with_reducible refine cdK_split (fun h => ?_) (fun h => ?_)
        | with_reducible refine gdK_splitT (fun h => ?_) (fun h => ?_)
        | with_reducible refine gdK_splitF (fun h => ?_) (fun h => ?_)
        | refine clK_mk (hck) rfl ?_
        | simp only [go_sem, Nat.reduceBEq, Nat.reduceAdd, Nat.reduceMul, Nat.reduceSub, Nat.reduceLeDiff, Nat.reduceLT, Nat.reduceEqDiff, Int.reduceEq, Int.reduceBEq, Int.reduceBNe, Int.reduceLT, Int.reduceLE, *])
      refine clK_ix hi rfl ?_
      repeat' (first
        | with_reducible refine cdK_splitN (fun h => ?_) (fun h => ?_)
        | with_reducible refine gdK_splitTN (fun h => ?_) (fun h => ?_)
        | with_reducible refine gdK_splitFN (fun h => ?_) (fun h => ?_)
        | with_reducible refine cdK_split (fun h => ?_) (fun h => ?_)
        | with_reducible refine gdK_splitT (fun h => ?_) (fun h => ?_)
        | with_reducible refine gdK_splitF (fun h => ?_) (fun h => ?_)
        | simp only [go_sem, Nat.reduceBEq, Nat.reduceAdd, Nat.reduceMul, Nat.reduceSub, Nat.reduceLeDiff, Nat.reduceLT, Nat.reduceEqDiff, Int.reduceEq, Int.reduceBEq, Int.reduceBNe, Int.reduceLT, Int.reduceLE, *])
      rw [append_rf (esz := 1) (e := 64) (ag := false) (by kernel_rfl) (by kernel_rfl) (by kernel_rfl) rfl (by kernel_rfl) (fun x hx => by rw [List.mem_singleton.1 hx]; rfl) (hget_new _ _) (by simp; omega) (by simp)]
      rw [u64_cells, hset_new]
      have hdep2 := u64_dep ms sc
      simp only [List.length_cons, List.length_nil]
      repeat' (first
        | with_reducible refine cdK_splitN (fun h => ?_) (fun h => ?_)
        | with_reducible refine gdK_splitTN (fun h => ?_) (fun h => ?_)
        | with_reducible refine gdK_splitFN (fun h => ?_) (fun h => ?_)
        | with_reducible refine cdK_split (fun h => ?_) (fun h => ?_)
        | with_reducible refine gdK_splitT (fun h => ?_) (fun h => ?_)
        | with_reducible refine gdK_splitF (fun h => ?_) (fun h => ?_)
        | simp only [go_sem, Nat.reduceBEq, Nat.reduceAdd, Nat.reduceMul, Nat.reduceSub, Nat.reduceLeDiff, Nat.reduceLT, Nat.reduceEqDiff, Int.reduceEq, Int.reduceBEq, Int.reduceBNe, Int.reduceLT, Int.reduceLE, *])
      refine clK_fx hmu (by simp only [go_sem, Nat.reduceBEq, Nat.reduceAdd, Nat.reduceMul, Nat.reduceSub, Nat.reduceLeDiff, Nat.reduceLT, Nat.reduceEqDiff, Int.reduceEq, Int.reduceBEq, Int.reduceBNe, Int.reduceLT, Int.reduceLE, hdep2]) rfl ?_
      clear hdep2
      generalize frz _ _ = HF
      repeat' (first
        | with_reducible refine cdK_splitN (fun h => ?_) (fun h => ?_)
        | with_reducible refine gdK_splitTN (fun h => ?_) (fun h => ?_)
        | with_reducible refine gdK_splitFN (fun h => ?_) (fun h => ?_)
        | with_reducible refine cdK_split (fun h => ?_) (fun h => ?_)
        | with_reducible refine gdK_splitT (fun h => ?_) (fun h => ?_)
        | with_reducible refine gdK_splitF (fun h => ?_) (fun h => ?_)
        | refine clK_mk (hsm) rfl ?_
        | refine clK_mk (hfr) rfl ?_
        | simp only [go_sem, Nat.reduceBEq, Nat.reduceAdd, Nat.reduceMul, Nat.reduceSub, Nat.reduceLeDiff, Nat.reduceLT, Nat.reduceEqDiff, Int.reduceEq, Int.reduceBEq, Int.reduceBNe, Int.reduceLT, Int.reduceLE, *])
      refine loop_range row.coefs (fun k s' => hget s'.hp (hnext HF 12) = some ⟨last.cs.map .t, 2, 1, tWInt, true, true⟩ ∧ hget s'.hp (hnext HF 13) = some ⟨(intC true sc).map .t, 2, 1, tWInt, true, true⟩ ∧ eqW out row.coefs sc = eqW (out.drop k) (row.coefs.drop k) sc) rfl rfl (by first | assumption | omega) (by kernel_rfl) (fun _ _ _ _ hj => hj) (fun _ _ _ hj => hj) ?_ (fun k x s' hx hd hk hJ hix hfr G hG => ?_) (fun s' hJ hfr => ?_)
      · refine ⟨?_, ?_, rfl⟩
        · simp only [go_sem, Nat.reduceBEq, Nat.reduceAdd, Nat.reduceMul, Nat.reduceSub, Nat.reduceLeDiff, Nat.reduceLT, Nat.reduceEqDiff, Int.reduceEq, Int.reduceBEq, Int.reduceBNe, Int.reduceLT, Int.reduceLE, ]
        · rw [← hnext_new_ne (h := HF) (s := 12) (d := 13) _ rfl]; exact hget_new _ _
      · have c11 := hfr 11 (by kernel_rfl)
        have c13 := hfr 13 (by kernel_rfl)
        have c59 := hfr 59 (by kernel_rfl)
        clear hfr
        simp only [go_sem, Nat.reduceBEq, Nat.reduceAdd, Nat.reduceMul, Nat.reduceSub, Nat.reduceLeDiff, Nat.reduceLT, Nat.reduceEqDiff, Int.reduceEq, Int.reduceBEq, Int.reduceBNe, Int.reduceLT, Int.reduceLE] at c11 c13 c59
        rw [hnext_new_ne _ rfl] at c13
        obtain ⟨h12, h13, hJ⟩ := hJ
        obtain ⟨y, hy, hyd⟩ := get_of_lt out k (by omega)
        have hxs := smallB_abs (hr3 x (List.mem_of_getElem? hx))
        rw [hd, hyd, eqW] at hJ
        have hyf := (hle1 y (List.mem_of_getElem? hy)).fits (by omega)
        have ox := of_d x ⟨by omega, by omega⟩
        have mx := mul_d true true (sc : Int) x hfs (fits_i64 ⟨by omega, by omega⟩)
        have cx := cmp_d y.nn true y.z ((sc : Int) * x) hyf (mul_fits hxs hb.2)
        by_cases hyz : y.z = sc * x
        · rw [decide_eq_true hyz, Bool.true_and] at hJ
          rw [hyz, Int.sub_self, show Int.sign 0 = 0 from rfl] at cx
          clear hyf hxs
          repeat' (first
            | with_reducible refine cdK_splitN (fun h => ?_) (fun h => ?_)
            | with_reducible refine gdK_splitTN (fun h => ?_) (fun h => ?_)
            | with_reducible refine gdK_splitFN (fun h => ?_) (fun h => ?_)
            | with_reducible refine cdK_split (fun h => ?_) (fun h => ?_)
            | with_reducible refine gdK_splitT (fun h => ?_) (fun h => ?_)
            | with_reducible refine gdK_splitF (fun h => ?_) (fun h => ?_)
            | refine clK_mk (ox) rfl ?_
            | refine clK_mk (mx) rfl ?_
            | refine clK_mk (cx) rfl ?_
            | simp only [go_sem, Nat.reduceBEq, Nat.reduceAdd, Nat.reduceMul, Nat.reduceSub, Nat.reduceLeDiff, Nat.reduceLT, Nat.reduceEqDiff, Int.reduceEq, Int.reduceBEq, Int.reduceBNe, Int.reduceLT, Int.reduceLE, *])
          all_goals exact hG _ ⟨h12, h13, hJ⟩
        · rw [decide_eq_false hyz, Bool.false_and] at hJ
          have g5 : ((y.z - sc * x).sign != 0) = true := by
            simp [Int.sign_eq_zero_iff_zero]; omega
          generalize (y.z - sc * x).sign = sg at *
          clear hyf hxs hyz
          repeat' (first
            | with_reducible refine cdK_splitN (fun h => ?_) (fun h => ?_)
            | with_reducible refine gdK_splitTN (fun h => ?_) (fun h => ?_)
            | with_reducible refine gdK_splitFN (fun h => ?_) (fun h => ?_)
            | with_reducible refine cdK_split (fun h => ?_) (fun h => ?_)
            | with_reducible refine gdK_splitT (fun h => ?_) (fun h => ?_)
            | with_reducible refine gdK_splitF (fun h => ?_) (fun h => ?_)
            | refine clK_mk (ox) rfl ?_
            | refine clK_mk (mx) rfl ?_
            | refine clK_mk (cx) rfl ?_
            | simp only [go_sem, Nat.reduceBEq, Nat.reduceAdd, Nat.reduceMul, Nat.reduceSub, Nat.reduceLeDiff, Nat.reduceLT, Nat.reduceEqDiff, Int.reduceEq, Int.reduceBEq, Int.reduceBNe, Int.reduceLT, Int.reduceLE, *])
      · have c6 := hfr 6 (by kernel_rfl)
        have c12 := hfr 12 (by kernel_rfl)
        have c13 := hfr 13 (by kernel_rfl)
        clear hfr
        simp only [go_sem, Nat.reduceBEq, Nat.reduceAdd, Nat.reduceMul, Nat.reduceSub, Nat.reduceLeDiff, Nat.reduceLT, Nat.reduceEqDiff, Int.reduceEq, Int.reduceBEq, Int.reduceBNe, Int.reduceLT, Int.reduceLE] at c6 c12 c13
        rw [hnext_new_ne _ rfl] at c13
        obtain ⟨h12, h13, hJ⟩ := hJ
        have hJ' : eqW out row.coefs sc = true := by rw [hJ, List.drop_length]; cases hdd : out.drop row.coefs.length <;> rfl
        rw [hJ', Bool.true_and]
        have hcs := smallB_abs hr2
        have ox := of_d row.const ⟨by omega, by omega⟩
        have mx := mul_d true true (sc : Int) row.const hfs (fits_i64 ⟨by omega, by omega⟩)
        have cx := cmp_d last.nn true last.z ((sc : Int) * row.const) (hle2.fits (by omega)) (mul_fits hcs hb.2)
        have g6 : decide ((last.z - sc * row.const).sign ≤ 0) = decide (last.z ≤ sc * row.const) := by
          rw [Bool.eq_iff_iff, decide_eq_true_iff, decide_eq_true_iff, Int.sign_nonpos_iff]; omega
        clear hJ hJ' hcs
        repeat' (first
          | with_reducible refine cdK_splitN (fun h => ?_) (fun h => ?_)
          | with_reducible refine gdK_splitTN (fun h => ?_) (fun h => ?_)
          | with_reducible refine gdK_splitFN (fun h => ?_) (fun h => ?_)
          | with_reducible refine cdK_split (fun h => ?_) (fun h => ?_)
          | with_reducible refine gdK_splitT (fun h => ?_) (fun h => ?_)
          | with_reducible refine gdK_splitF (fun h => ?_) (fun h => ?_)
          | refine clK_mk (ox) rfl ?_
          | refine clK_mk (mx) rfl ?_
          | refine clK_mk (cx) rfl ?_
          | simp only [go_sem, Nat.reduceBEq, Nat.reduceAdd, Nat.reduceMul, Nat.reduceSub, Nat.reduceLeDiff, Nat.reduceLT, Nat.reduceEqDiff, Int.reduceEq, Int.reduceBEq, Int.reduceBNe, Int.reduceLT, Int.reduceLE, *])
end Ytajgclnahfmfmaa
end Go.Vm
