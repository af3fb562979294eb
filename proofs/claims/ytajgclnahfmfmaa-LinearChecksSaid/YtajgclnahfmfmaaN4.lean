/- The reference's sums of rows. -/
import Derived.Test.YtajgclnahfmfmaaN3
import Derived.Test.YtajgclnahfmfmaaR2
set_option linter.unusedSimpArgs false
set_option maxRecDepth 10000
namespace Go.Vm
open Go Go.Proofs Go.Whole
namespace Ytajgclnahfmfmaa
open Go.Proofs.Try

attribute [go_sem] Try.results65 Try.results35 Try.results74 Try.results31 Try.results34 Try.results38 Try.results61
abbrev tRow : TypeId := 40
abbrev u64T (n : Nat) : Tr := .int .u64 (n : Int)
abbrev zR : RInt := ⟨false, 0, false, 0⟩
/-- a row added -/
def addRow (out : List RInt) (cs : List Int) (b : Nat) : List RInt := List.zipWith (fun x c => withR x c b) out cs
def sumR : List RInt → RInt → List Row → List Nat → List RInt × RInt
  | out, last, r :: rows, m :: ms => sumR (addRow out r.coefs m) (withR last r.const m) rows ms
  | out, last, _, _ => (out, last)
theorem ok_RInt (l : List RInt) : ∀ x ∈ l.map RInt.tr, elemOK true 2 x := by
  intro x hx
  obtain ⟨y, _, rfl⟩ := List.mem_map.1 hx
  exact ⟨fun _ => rfl, (fun h => nomatch h), rfl⟩
theorem RInt_len (l : List RInt) : ∀ x ∈ l.map RInt.tr, x.cells.length = 2 := fun x hx => (ok_RInt l x hx).2.2
/-- small enough after k rows -/
def RInt.le (x : RInt) (k : Nat) : Prop := x.p ≤ k * 19342813113834066795298816 ∧ x.n ≤ k * 19342813113834066795298816
theorem RInt.le.ok {x : RInt} {k : Nat} (h : x.le k) (hk : k ≤ 100000) :
    (digs x.p).length ≤ 4 ∧ (digs x.n).length ≤ 4 := by
  obtain ⟨h1, h2⟩ := h
  have h2 : B ^ 2 = 18446744073709551616 := by decide
  have h3 : B ^ 4 = 340282366920938463463374607431768211456 := by
    rw [Nat.pow_succ, Nat.pow_succ, h2, B_eq]
  constructor
  · refine digs_length_le ?_
    rw [h3]; omega
  · refine digs_length_le ?_
    rw [h3]; omega
theorem withR_le {x : RInt} {k : Nat} (h : x.le k) {c : Int} {m : Nat} (hc : c.natAbs ≤ 1048576) (hm : m < 18446744073709551616) : (withR x c m).le (k + 1) := by
  have : m * c.natAbs ≤ 18446744073709551616 * 1048576 := Nat.mul_le_mul (Nat.le_of_lt hm) hc
  obtain ⟨h1, h2⟩ := h
  rw [show 18446744073709551616 * 1048576 = 19342813113834066795298816 from rfl] at this
  unfold RInt.le
  rw [Nat.succ_mul]
  generalize 19342813113834066795298816 = big at *
  by_cases hc0 : c < 0
  · rw [show withR x c m = _ from if_pos hc0]
    exact ⟨by show x.p ≤ _; omega, by show x.n + m * c.natAbs ≤ _; omega⟩
  · rw [show withR x c m = _ from if_neg hc0]
    exact ⟨by show x.p + m * c.natAbs ≤ _; omega, by show x.n ≤ _; omega⟩
theorem smallB_abs {c : Int} (h : smallB c = true) : c.natAbs ≤ 1048576 := by
  simp [smallB] at h; omega
theorem digs64 {m : Nat} (hm : m < 18446744073709551616) : (digs m).length ≤ 2 := digs_length_le (by rw [show B ^ 2 = 18446744073709551616 by decide]; exact hm)

theorem zR_cs : zR.cs = [.sl false [], .sl false []] := by simp only [RInt.cs, digs_zero, dl_nil]
theorem zR_row (V : Nat) : (flat ((List.replicate V zR).map RInt.tr)).map PV.t = (zrow [.sl false [], .sl false []] V).map PV.t := by
  rw [zrow_flat, List.map_replicate]
  unfold RInt.tr
  rw [zR_cs]
theorem zR_le (k : Nat) : zR.le k := ⟨Nat.zero_le _, Nat.zero_le _⟩
theorem sum_d (V : Nat) (rnn : Bool) (rows : List Row) (mnn : Bool) (ms : List Nat) (hV : V ≤ 128) (hlen : rows.length ≤ 256) (hml : rows.length ≤ ms.length) (hms : ∀ m ∈ ms, m < 18446744073709551616) (hrow : ∀ r ∈ rows, r.coefs.length = V ∧ smallB r.const = true ∧ ∀ c ∈ r.coefs, smallB c = true) :
    DCall Try.prog 65 [i64 V, .sl rnn (rows.map Row.tr), .sl mnn (ms.map u64T)] (.tup [.sl true ((sumR (List.replicate V zR) zR rows ms).1.map RInt.tr), (sumR (List.replicate V zR) zR rows ms).2.tr]) := by
  refine dcall_mk orders Try.func65 rfl (by kernel_rfl) (fun d => d == 7 || d == 9 || d == 11 || d == 16) (by kernel_rfl) rfl (fun hs => ?_)
  clear hs
  generalize hR : sumR (List.replicate V zR) zR rows ms = R
  repeat' (first
    | with_reducible refine cdK_splitN (fun h => ?_) (fun h => ?_)
    | with_reducible refine gdK_splitTN (fun h => ?_) (fun h => ?_)
    | with_reducible refine gdK_splitFN (fun h => ?_) (fun h => ?_)
    | with_reducible refine cdK_split (fun h => ?_) (fun h => ?_)
    | with_reducible refine gdK_splitT (fun h => ?_) (fun h => ?_)
    | with_reducible refine gdK_splitF (fun h => ?_) (fun h => ?_)
    | simp only [go_sem, Nat.reduceBEq, Nat.reduceAdd, Nat.reduceMul, Nat.reduceSub, Nat.reduceLeDiff, Nat.reduceLT, Nat.reduceEqDiff, Int.reduceEq, Int.reduceBEq, Int.reduceBNe, Int.reduceLT, Int.reduceLE, *])
  refine hpK_if ⟨by omega, by omega⟩ ?_
  repeat' (first
    | with_reducible refine cdK_splitN (fun h => ?_) (fun h => ?_)
    | with_reducible refine gdK_splitTN (fun h => ?_) (fun h => ?_)
    | with_reducible refine gdK_splitFN (fun h => ?_) (fun h => ?_)
    | with_reducible refine cdK_split (fun h => ?_) (fun h => ?_)
    | with_reducible refine gdK_splitT (fun h => ?_) (fun h => ?_)
    | with_reducible refine gdK_splitF (fun h => ?_) (fun h => ?_)
    | simp only [go_sem, Nat.reduceBEq, Nat.reduceAdd, Nat.reduceMul, Nat.reduceSub, Nat.reduceLeDiff, Nat.reduceLT, Nat.reduceEqDiff, Int.reduceEq, Int.reduceBEq, Int.reduceBNe, Int.reduceLT, Int.reduceLE, *])
  refine loop_range rows (fun k s' => ∃ (out : List RInt) (last : RInt), hget s'.hp (16, 0) = some ⟨(flat (out.map RInt.tr)).map .t, 2, V, tRInt, true, true⟩ ∧ hget s'.hp (9, 0) = some ⟨last.cs.map .t, 2, 1, tRInt, true, true⟩ ∧ hget s'.hp (7, 0) = some ⟨zR.cs.map .t, 2, 1, tRInt, true, true⟩ ∧ out.length = V ∧ (∀ x ∈ out, x.le k) ∧ last.le k ∧ sumR out last (rows.drop k) (ms.drop k) = R) rfl rfl (by first | assumption | omega) (by kernel_rfl) (fun _ _ _ _ hj => hj) (fun _ _ _ hj => hj) ?_ (fun k x s' hx hd hk hJ hix hfr G hG => ?_) (fun s' hJ hfr => ?_)
  · refine ⟨List.replicate V zR, zR, ?_, ?_, ?_, by simp, fun x hx => by rw [(List.mem_replicate.1 hx).2]; exact zR_le 0, zR_le 0, hR⟩
    · rw [zR_row]; rfl
    · rw [zR_cs]; rfl
    · rw [zR_cs]; rfl
  · have c2 := hfr 2 (by kernel_rfl)
    have c8 := hfr 8 (by kernel_rfl)
    have c9 := hfr 9 (by kernel_rfl)
    have c17 := hfr 17 (by kernel_rfl)
    clear hfr
    simp only [go_sem, Nat.reduceBEq, Nat.reduceAdd, Nat.reduceMul, Nat.reduceSub, Nat.reduceLeDiff, Nat.reduceLT, Nat.reduceEqDiff, Int.reduceEq, Int.reduceBEq, Int.reduceBNe, Int.reduceLT, Int.reduceLE] at c2 c8 c9 c17
    change _ = PV.rf (16, 0) V at c8
    change _ = PV.ad (9, 0) 1 0 at c9
    obtain ⟨out, last, h16, h9, h7, hol, hole, hlle, hJ⟩ := hJ
    have hkm : k < ms.length := by omega
    obtain ⟨m, hm1, hm2⟩ := get_of_lt ms k hkm
    have hm64 := hms m (List.mem_of_getElem? hm1)
    obtain ⟨hx1', hx2, hx3⟩ := hrow x (List.mem_of_getElem? hx)
    have hx1a : x.coefs.length ≤ V := by omega
    have hx1b : V ≤ x.coefs.length := by omega
    clear hx1'
    rw [hd, hm2, sumR] at hJ
    have of1 := ofN_d m hm64
    have e2 := c2
    have e8 := c8
    have e9 := c9
    repeat' (first
      | with_reducible refine cdK_splitN (fun h => ?_) (fun h => ?_)
      | with_reducible refine gdK_splitTN (fun h => ?_) (fun h => ?_)
      | with_reducible refine gdK_splitFN (fun h => ?_) (fun h => ?_)
      | with_reducible refine cdK_split (fun h => ?_) (fun h => ?_)
      | with_reducible refine gdK_splitT (fun h => ?_) (fun h => ?_)
      | with_reducible refine gdK_splitF (fun h => ?_) (fun h => ?_)
      | refine clK_mk (of1) rfl ?_
      | simp only [go_sem, Nat.reduceBEq, Nat.reduceAdd, Nat.reduceMul, Nat.reduceSub, Nat.reduceLeDiff, Nat.reduceLT, Nat.reduceEqDiff, Int.reduceEq, Int.reduceBEq, Int.reduceBNe, Int.reduceLT, Int.reduceLE, *])
    obtain ⟨H, hH⟩ : ∃ H, H = s'.hp := ⟨_, rfl⟩
    rw [← hH] at h16 h9 h7 ⊢
    clear hH
    obtain ⟨i, hik⟩ : ∃ i, i = k := ⟨k, rfl⟩
    subst hik
    obtain ⟨r, hrx⟩ : ∃ r, r = x := ⟨x, rfl⟩
    subst hrx
    refine loop_range r.coefs (fun k s' => ∃ cur : List RInt, hget s'.hp (16, 0) = some ⟨(flat (cur.map RInt.tr)).map .t, 2, V, tRInt, true, true⟩ ∧ hget s'.hp (9, 0) = some ⟨last.cs.map .t, 2, 1, tRInt, true, true⟩ ∧ hget s'.hp (7, 0) = some ⟨zR.cs.map .t, 2, 1, tRInt, true, true⟩ ∧ hget s'.hp (hnext H 11) = some ⟨[.t (.sl r.nn (r.coefs.map (Tr.int .i64))), .t (.int .i64 r.const)], 2, 1, tRow, true, true⟩ ∧ cur.length = V ∧ cur.drop k = out.drop k ∧ cur.take k = (addRow out r.coefs m).take k) rfl rfl (by first | assumption | omega) (by kernel_rfl) (fun _ _ _ _ hj => hj) (fun _ _ _ hj => hj) ?_ (fun k x s' hx hd hk hJ hix hfr G hG => ?_) (fun s' hJ hfr => ?_)
    · refine ⟨out, ?_, ?_, ?_, ?_, hol, rfl, rfl⟩
      · simp only [go_sem, Nat.reduceBEq, Nat.reduceAdd, Nat.reduceMul, Nat.reduceSub, Nat.reduceLeDiff, Nat.reduceLT, Nat.reduceEqDiff, Int.reduceEq, Int.reduceBEq, Int.reduceBNe, Int.reduceLT, Int.reduceLE, h16]
      · simp only [go_sem, Nat.reduceBEq, Nat.reduceAdd, Nat.reduceMul, Nat.reduceSub, Nat.reduceLeDiff, Nat.reduceLT, Nat.reduceEqDiff, Int.reduceEq, Int.reduceBEq, Int.reduceBNe, Int.reduceLT, Int.reduceLE, h9]
      · simp only [go_sem, Nat.reduceBEq, Nat.reduceAdd, Nat.reduceMul, Nat.reduceSub, Nat.reduceLeDiff, Nat.reduceLT, Nat.reduceEqDiff, Int.reduceEq, Int.reduceBEq, Int.reduceBNe, Int.reduceLT, Int.reduceLE, h7]
      · exact hget_new _ _
    · have c8 := hfr 8 (by kernel_rfl)
      have c12 := hfr 12 (by kernel_rfl)
      have c30 := hfr 30 (by kernel_rfl)
      clear hfr
      simp only [go_sem, Nat.reduceBEq, Nat.reduceAdd, Nat.reduceMul, Nat.reduceSub, Nat.reduceLeDiff, Nat.reduceLT, Nat.reduceEqDiff, Int.reduceEq, Int.reduceBEq, Int.reduceBNe, Int.reduceLT, Int.reduceLE] at c8 c12 c30
      obtain ⟨cur, h16, h9, h7, h11, hcl, hdr, htk⟩ := hJ
      rw [e8] at c8
      have hkV : k < V := by omega
      obtain ⟨y, hy, _⟩ := get_of_lt out k (by omega)
      have hcy : cur[k]? = some y := by
        have := congrArg (fun l => l[0]?) hdr
        simp only [List.getElem?_drop, Nat.add_zero] at this
        rw [this, hy]
      have hxs := smallB_abs (hx3 x (List.mem_of_getElem? hx))
      have hyo := (hole y (List.mem_of_getElem? hy)).ok (by omega)
      have w1 := with_d y x true m ⟨by omega, by omega⟩ (Nat.le_trans (digs64 hm64) (by decide)) (by omega) (by omega)
      have hload : List.take 2 (List.drop (k * 2) (List.map PV.t (flat (List.map RInt.tr cur)))) = y.cs.map PV.t := flat_cells_get (RInt_len cur) (by rw [List.getElem?_map, hcy]; rfl)
      have hspl : splice (List.map PV.t (flat (List.map RInt.tr cur))) (k * 2) ((withR y x m).cs.map PV.t) = List.map PV.t (flat (List.map RInt.tr (cur.set k (withR y x m)))) := by
        rw [List.map_set]
        exact flat_splice (RInt_len cur) (x := y.tr) (y := (withR y x m).tr) (by rw [List.getElem?_map, hcy]; rfl) rfl
      simp only [go_sem] at hload hspl
      have hfl : (flat (List.map RInt.tr cur)).length = V * 2 := by rw [flat_length _ 2 (RInt_len cur), List.length_map, hcl]
      have hkV1 : k + 1 ≤ V := hkV
      have hkV2 : k * 2 + 2 ≤ V * 2 := by omega
      have hadd : (addRow out r.coefs m)[k]? = some (withR y x m) := by
        unfold addRow
        rw [List.getElem?_zipWith, hy, hx]
      have hset : (cur.set k (withR y x m)).take (k + 1) = (addRow out r.coefs m).take (k + 1) := by
        rw [take_set_succ _ _ _ (by omega), htk, List.take_add_one, hadd]; rfl
      have hdr2 : (cur.set k (withR y x m)).drop (k + 1) = out.drop (k + 1) := by
        rw [List.drop_set_of_lt (by omega)]
        have := congrArg (List.drop 1) hdr
        simpa only [List.drop_drop] using this
      clear hdr htk hadd hcy hy hyo hxs
      repeat' (first
        | with_reducible refine cdK_splitN (fun h => ?_) (fun h => ?_)
        | with_reducible refine gdK_splitTN (fun h => ?_) (fun h => ?_)
        | with_reducible refine gdK_splitFN (fun h => ?_) (fun h => ?_)
        | with_reducible refine cdK_split (fun h => ?_) (fun h => ?_)
        | with_reducible refine gdK_splitT (fun h => ?_) (fun h => ?_)
        | with_reducible refine gdK_splitF (fun h => ?_) (fun h => ?_)
        | refine clK_mk (w1) rfl ?_
        | simp only [go_sem, Nat.reduceBEq, Nat.reduceAdd, Nat.reduceMul, Nat.reduceSub, Nat.reduceLeDiff, Nat.reduceLT, Nat.reduceEqDiff, Int.reduceEq, Int.reduceBEq, Int.reduceBNe, Int.reduceLT, Int.reduceLE, *])
      refine hG _ ⟨cur.set k (withR y x m), ?_, ?_, ?_, ?_, by simp [hcl], hdr2, hset⟩
      · simp only [go_sem, Nat.reduceBEq, Nat.reduceAdd, Nat.reduceMul, Nat.reduceSub, Nat.reduceLeDiff, Nat.reduceLT, Nat.reduceEqDiff, Int.reduceEq, Int.reduceBEq, Int.reduceBNe, Int.reduceLT, Int.reduceLE, h16]
      · simp only [go_sem, Nat.reduceBEq, Nat.reduceAdd, Nat.reduceMul, Nat.reduceSub, Nat.reduceLeDiff, Nat.reduceLT, Nat.reduceEqDiff, Int.reduceEq, Int.reduceBEq, Int.reduceBNe, Int.reduceLT, Int.reduceLE, h9]
      · simp only [go_sem, Nat.reduceBEq, Nat.reduceAdd, Nat.reduceMul, Nat.reduceSub, Nat.reduceLeDiff, Nat.reduceLT, Nat.reduceEqDiff, Int.reduceEq, Int.reduceBEq, Int.reduceBNe, Int.reduceLT, Int.reduceLE, h7]
      · simp only [go_sem, Nat.reduceBEq, Nat.reduceAdd, Nat.reduceMul, Nat.reduceSub, Nat.reduceLeDiff, Nat.reduceLT, Nat.reduceEqDiff, Int.reduceEq, Int.reduceBEq, Int.reduceBNe, Int.reduceLT, Int.reduceLE, h11]
    · obtain ⟨cur, h16, h9, h7, h11, hcl, hdr, htk⟩ := hJ
      have c9 := hfr 9 (by kernel_rfl)
      have c11 := hfr 11 (by kernel_rfl)
      have c12 := hfr 12 (by kernel_rfl)
      clear hfr
      simp only [go_sem, Nat.reduceBEq, Nat.reduceAdd, Nat.reduceMul, Nat.reduceSub, Nat.reduceLeDiff, Nat.reduceLT, Nat.reduceEqDiff, Int.reduceEq, Int.reduceBEq, Int.reduceBNe, Int.reduceLT, Int.reduceLE] at c9 c11 c12
      rw [e9] at c9
      have hal : (addRow out r.coefs m).length = V := by unfold addRow; rw [List.length_zipWith]; omega
      rw [List.take_of_length_le (by omega), List.take_of_length_le (by omega)] at htk
      have hcs := smallB_abs hx2
      have hlo := hlle.ok (by omega)
      have w1 := with_d last r.const true m ⟨by omega, by omega⟩ (Nat.le_trans (digs64 hm64) (by decide)) (by omega) (by omega)
      clear hdr hlo
      repeat' (first
        | with_reducible refine cdK_splitN (fun h => ?_) (fun h => ?_)
        | with_reducible refine gdK_splitTN (fun h => ?_) (fun h => ?_)
        | with_reducible refine gdK_splitFN (fun h => ?_) (fun h => ?_)
        | with_reducible refine cdK_split (fun h => ?_) (fun h => ?_)
        | with_reducible refine gdK_splitT (fun h => ?_) (fun h => ?_)
        | with_reducible refine gdK_splitF (fun h => ?_) (fun h => ?_)
        | refine clK_mk (w1) rfl ?_
        | simp only [go_sem, Nat.reduceBEq, Nat.reduceAdd, Nat.reduceMul, Nat.reduceSub, Nat.reduceLeDiff, Nat.reduceLT, Nat.reduceEqDiff, Int.reduceEq, Int.reduceBEq, Int.reduceBNe, Int.reduceLT, Int.reduceLE, *])
      refine hG _ ⟨addRow out r.coefs m, withR last r.const m, ?_, ?_, ?_, hal, ?_, withR_le hlle hcs hm64, hJ⟩
      · rw [← htk]; simp only [go_sem, Nat.reduceBEq, Nat.reduceAdd, Nat.reduceMul, Nat.reduceSub, Nat.reduceLeDiff, Nat.reduceLT, Nat.reduceEqDiff, Int.reduceEq, Int.reduceBEq, Int.reduceBNe, Int.reduceLT, Int.reduceLE, h16]
      · simp only [go_sem, Nat.reduceBEq, Nat.reduceAdd, Nat.reduceMul, Nat.reduceSub, Nat.reduceLeDiff, Nat.reduceLT, Nat.reduceEqDiff, Int.reduceEq, Int.reduceBEq, Int.reduceBNe, Int.reduceLT, Int.reduceLE, h9]
      · simp only [go_sem, Nat.reduceBEq, Nat.reduceAdd, Nat.reduceMul, Nat.reduceSub, Nat.reduceLeDiff, Nat.reduceLT, Nat.reduceEqDiff, Int.reduceEq, Int.reduceBEq, Int.reduceBNe, Int.reduceLT, Int.reduceLE, h7]
      · intro z hz
        unfold addRow at hz
        rw [List.mem_iff_getElem?] at hz
        obtain ⟨j, hj⟩ := hz
        rw [List.getElem?_zipWith] at hj
        cases ho : out[j]? with
        | none => simp [ho] at hj
        | some a =>
          cases hc : r.coefs[j]? with
          | none => simp [ho, hc] at hj
          | some c =>
            simp [ho, hc] at hj
            rw [← hj]
            exact withR_le (hole a (List.mem_of_getElem? ho)) (smallB_abs (hx3 c (List.mem_of_getElem? hc))) hm64
  · obtain ⟨out, last, h16, h9, h7, hol, hole, hlle, hJ⟩ := hJ
    have c7 := hfr 7 (by kernel_rfl)
    have c8 := hfr 8 (by kernel_rfl)
    have c9 := hfr 9 (by kernel_rfl)
    clear hfr
    simp only [go_sem, Nat.reduceBEq, Nat.reduceAdd, Nat.reduceMul, Nat.reduceSub, Nat.reduceLeDiff, Nat.reduceLT, Nat.reduceEqDiff, Int.reduceEq, Int.reduceBEq, Int.reduceBNe, Int.reduceLT, Int.reduceLE] at c7 c8 c9
    change _ = PV.rf (16, 0) V at c8
    change _ = PV.ad (9, 0) 1 0 at c9
    change _ = PV.ad (7, 0) 1 0 at c7
    rw [List.drop_length] at hJ
    have hJ' : R = (out, last) := by rw [← hJ]; cases hmd : ms.drop rows.length <;> rfl
    subst hJ'
    have hdep : ∀ o, toTr (hset s'.hp (7, 0) o) dep (.rf (16, 0) V) = some (.sl true (out.map RInt.tr)) := fun o => toTr_flat 5 (ok_RInt out) (by simp [hol]) (by rw [hget_set_ne _ rfl]; exact h16)
    clear hR hJ
    repeat' (first
      | with_reducible refine cdK_splitN (fun h => ?_) (fun h => ?_)
      | with_reducible refine gdK_splitTN (fun h => ?_) (fun h => ?_)
      | with_reducible refine gdK_splitFN (fun h => ?_) (fun h => ?_)
      | with_reducible refine cdK_split (fun h => ?_) (fun h => ?_)
      | with_reducible refine gdK_splitT (fun h => ?_) (fun h => ?_)
      | with_reducible refine gdK_splitF (fun h => ?_) (fun h => ?_)
      | simp only [go_sem, Nat.reduceBEq, Nat.reduceAdd, Nat.reduceMul, Nat.reduceSub, Nat.reduceLeDiff, Nat.reduceLT, Nat.reduceEqDiff, Int.reduceEq, Int.reduceBEq, Int.reduceBNe, Int.reduceLT, Int.reduceLE, *])
    all_goals rw [hdep]

/-! checks -/
theorem mults_d (rnn : Bool) (rows : List Row) (mnn : Bool) (ms : List Nat) : DCall Try.prog 34 [.sl rnn (rows.map Row.tr), .sl mnn (ms.map u64T)] (.bool (decide (ms.length = rows.length) && ms.all (fun m => decide (m ≤ 4611686018427387904)))) := by
  refine dcall_mk orders Try.func34 rfl (by kernel_rfl) noMu (by kernel_rfl) rfl (fun hs => ?_)
  simp [sizedL, Tr.sized] at hs
  obtain ⟨⟨hs1, _⟩, hs2, _⟩ := hs
  by_cases hl : ms.length = rows.length
  · have g1 : ((ms.length : Int) != (rows.length : Int)) = false := by simp; omega
    rw [decide_eq_true hl, Bool.true_and]
    clear hl
    repeat' (first
      | with_reducible refine cdK_splitN (fun h => ?_) (fun h => ?_)
      | with_reducible refine gdK_splitTN (fun h => ?_) (fun h => ?_)
      | with_reducible refine gdK_splitFN (fun h => ?_) (fun h => ?_)
      | with_reducible refine cdK_split (fun h => ?_) (fun h => ?_)
      | with_reducible refine gdK_splitT (fun h => ?_) (fun h => ?_)
      | with_reducible refine gdK_splitF (fun h => ?_) (fun h => ?_)
      | simp only [go_sem, Nat.reduceBEq, Nat.reduceAdd, Nat.reduceMul, Nat.reduceSub, Nat.reduceLeDiff, Nat.reduceLT, Nat.reduceEqDiff, Int.reduceEq, Int.reduceBEq, Int.reduceBNe, Int.reduceLT, Int.reduceLE, *])
    refine loop_range ms (fun k s' => ms.all (fun m => decide (m ≤ 4611686018427387904)) = (ms.drop k).all (fun m => decide (m ≤ 4611686018427387904))) rfl rfl (by first | assumption | omega) (by kernel_rfl) (fun _ _ _ _ hj => hj) (fun _ _ _ hj => hj) ?_ (fun k x s' hx hd hk hJ hix hfr G hG => ?_) (fun s' hJ hfr => ?_)
    · rfl
    · have c12 := hfr 12 (by kernel_rfl)
      clear hfr
      simp only [go_sem, Nat.reduceBEq, Nat.reduceAdd, Nat.reduceMul, Nat.reduceSub, Nat.reduceLeDiff, Nat.reduceLT, Nat.reduceEqDiff, Int.reduceEq, Int.reduceBEq, Int.reduceBNe, Int.reduceLT, Int.reduceLE] at c12
      rw [hd, List.all_cons] at hJ
      by_cases hx1 : x ≤ 4611686018427387904
      · have g2 : decide ((x : Int) > 4611686018427387904) = false := decide_eq_false (by omega)
        rw [decide_eq_true hx1, Bool.true_and] at hJ
        clear hx1
        repeat' (first
          | with_reducible refine cdK_splitN (fun h => ?_) (fun h => ?_)
          | with_reducible refine gdK_splitTN (fun h => ?_) (fun h => ?_)
          | with_reducible refine gdK_splitFN (fun h => ?_) (fun h => ?_)
          | with_reducible refine cdK_split (fun h => ?_) (fun h => ?_)
          | with_reducible refine gdK_splitT (fun h => ?_) (fun h => ?_)
          | with_reducible refine gdK_splitF (fun h => ?_) (fun h => ?_)
          | simp only [go_sem, Nat.reduceBEq, Nat.reduceAdd, Nat.reduceMul, Nat.reduceSub, Nat.reduceLeDiff, Nat.reduceLT, Nat.reduceEqDiff, Int.reduceEq, Int.reduceBEq, Int.reduceBNe, Int.reduceLT, Int.reduceLE, *])
      · have g2 : decide ((x : Int) > 4611686018427387904) = true := decide_eq_true (by omega)
        rw [decide_eq_false hx1, Bool.false_and] at hJ
        clear hx1
        repeat' (first
          | with_reducible refine cdK_splitN (fun h => ?_) (fun h => ?_)
          | with_reducible refine gdK_splitTN (fun h => ?_) (fun h => ?_)
          | with_reducible refine gdK_splitFN (fun h => ?_) (fun h => ?_)
          | with_reducible refine cdK_split (fun h => ?_) (fun h => ?_)
          | with_reducible refine gdK_splitT (fun h => ?_) (fun h => ?_)
          | with_reducible refine gdK_splitF (fun h => ?_) (fun h => ?_)
          | simp only [go_sem, Nat.reduceBEq, Nat.reduceAdd, Nat.reduceMul, Nat.reduceSub, Nat.reduceLeDiff, Nat.reduceLT, Nat.reduceEqDiff, Int.reduceEq, Int.reduceBEq, Int.reduceBNe, Int.reduceLT, Int.reduceLE, *])
    · simp only [List.drop_length, List.all_nil] at hJ
      repeat' (first
        | with_reducible refine cdK_splitN (fun h => ?_) (fun h => ?_)
        | with_reducible refine gdK_splitTN (fun h => ?_) (fun h => ?_)
        | with_reducible refine gdK_splitFN (fun h => ?_) (fun h => ?_)
        | with_reducible refine cdK_split (fun h => ?_) (fun h => ?_)
        | with_reducible refine gdK_splitT (fun h => ?_) (fun h => ?_)
        | with_reducible refine gdK_splitF (fun h => ?_) (fun h => ?_)
        | simp only [go_sem, Nat.reduceBEq, Nat.reduceAdd, Nat.reduceMul, Nat.reduceSub, Nat.reduceLeDiff, Nat.reduceLT, Nat.reduceEqDiff, Int.reduceEq, Int.reduceBEq, Int.reduceBNe, Int.reduceLT, Int.reduceLE, *])
  · have g1 : ((ms.length : Int) != (rows.length : Int)) = true := by simpa using fun h => hl (by omega)
    rw [decide_eq_false hl, Bool.false_and]
    clear hl
    repeat' (first
      | with_reducible refine cdK_splitN (fun h => ?_) (fun h => ?_)
      | with_reducible refine gdK_splitTN (fun h => ?_) (fun h => ?_)
      | with_reducible refine gdK_splitFN (fun h => ?_) (fun h => ?_)
      | with_reducible refine cdK_split (fun h => ?_) (fun h => ?_)
      | with_reducible refine gdK_splitT (fun h => ?_) (fun h => ?_)
      | with_reducible refine gdK_splitF (fun h => ?_) (fun h => ?_)
      | simp only [go_sem, Nat.reduceBEq, Nat.reduceAdd, Nat.reduceMul, Nat.reduceSub, Nat.reduceLeDiff, Nat.reduceLT, Nat.reduceEqDiff, Int.reduceEq, Int.reduceBEq, Int.reduceBNe, Int.reduceLT, Int.reduceLE, *])
end Ytajgclnahfmfmaa
end Go.Vm
