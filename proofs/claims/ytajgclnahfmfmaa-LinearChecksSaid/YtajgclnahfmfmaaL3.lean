/- Systems of inequalities: linear combinations of rows. -/
import Derived.Test.YtajgclnahfmfmaaL2
set_option linter.unusedSimpArgs false
set_option maxRecDepth 10000
namespace Go.Vm
open Go Go.Proofs Go.Whole
namespace Ytajgclnahfmfmaa
open Go.Proofs.Try

def addW (out : List WI) (cs : List Int) (m : Nat) : List WI := List.zipWith (fun x c => (⟨true, x.z + m * c⟩ : WI)) out cs
def lsumR : List WI → WI → List Row → List Nat → List WI × WI
  | out, last, r :: rows, m :: ms => if m = 0 then lsumR out last rows ms else lsumR (addW out r.coefs m) ⟨true, last.z + m * r.const⟩ rows ms
  | out, last, _, _ => (out, last)
abbrev zW : WI := ⟨false, 0⟩
def WI.cs (x : WI) : List Tr := intC x.nn x.z
attribute [go_sem] WI.cs
theorem ok_WI (l : List WI) : ∀ x ∈ l.map WI.tr, elemOK true 2 x := by
  intro x hx
  obtain ⟨y, _, rfl⟩ := List.mem_map.1 hx
  exact ⟨fun _ => rfl, (fun h => nomatch h), rfl⟩
theorem WI_len (l : List WI) : ∀ x ∈ l.map WI.tr, x.cells.length = 2 := fun x hx => (ok_WI l x hx).2.2
def WI.le (x : WI) (k : Nat) : Prop := x.z.natAbs ≤ k * 19342813113834066795298816
theorem WI.le.fits {x : WI} {k : Nat} (h : x.le k) (hk : k ≤ 100000) : fits x.z := by
  have h2 : B ^ 2 = 18446744073709551616 := by decide
  have h3 : B ^ 4 = 340282366920938463463374607431768211456 := by rw [Nat.pow_succ, Nat.pow_succ, h2, B_eq]
  unfold WI.le at h
  refine Nat.le_trans (digs_length_le (k := 4) ?_) (by decide)
  rw [h3]; omega
theorem mul_le {c : Int} {m : Nat} (hc : c.natAbs ≤ 1048576) (hm : m < 18446744073709551616) : ((m : Int) * c).natAbs ≤ 19342813113834066795298816 := by
  rw [Int.natAbs_mul, Int.natAbs_natCast]
  have : m * c.natAbs ≤ 18446744073709551616 * 1048576 := Nat.mul_le_mul (Nat.le_of_lt hm) hc
  rwa [show 18446744073709551616 * 1048576 = 19342813113834066795298816 from rfl] at this
theorem addWI_le {x : WI} {k : Nat} (h : x.le k) {c : Int} {m : Nat} (hc : c.natAbs ≤ 1048576) (hm : m < 18446744073709551616) (b : Bool) : (⟨b, x.z + m * c⟩ : WI).le (k + 1) := by
  have := mul_le hc hm
  unfold WI.le at *
  rw [Nat.succ_mul]
  generalize 19342813113834066795298816 = big at *
  show (x.z + m * c).natAbs ≤ _
  omega
theorem mul_fits {c : Int} {m : Nat} (hc : c.natAbs ≤ 1048576) (hm : m < 18446744073709551616) : fits ((m : Int) * c) := by
  have h := mul_le hc hm
  exact WI.le.fits (x := ⟨true, (m : Int) * c⟩) (k := 1) (by unfold WI.le; omega) (by decide)
theorem zW_cs : zW.cs = [.sl false [], .bool false] := by
  simp only [WI.cs, intC, show Int.natAbs 0 = 0 from rfl, digs_zero, dl_nil]; rfl
theorem zW_row (V : Nat) : (flat ((List.replicate V zW).map WI.tr)).map PV.t = (zrow [.sl false [], .bool false] V).map PV.t := by
  rw [zrow_flat, List.map_replicate]
  unfold WI.tr encI
  rw [show intC zW.nn zW.z = zW.cs from rfl, zW_cs]
theorem zW_le (b : Bool) (k : Nat) : (⟨b, 0⟩ : WI).le k := Nat.zero_le _

theorem hnext_new_ne {h : Hp} {s d : Nat} (o : Obj) (hn : (d == s) = false) : hnext (hnew h s o) d = hnext h d := by
  simp only [hnext, hnew]
  rw [upd_ne _ _ _ _ (by simpa using hn)]
set_option maxHeartbeats 1000000 in
theorem lsum_d (V : Nat) (rnn : Bool) (rows : List Row) (mnn : Bool) (ms : List Nat) (hV : V ≤ 128) (hlen : rows.length ≤ 256) (hml : rows.length ≤ ms.length) (hms : ∀ m ∈ ms, m < 18446744073709551616) (hrow : ∀ r ∈ rows, r.coefs.length = V ∧ smallB r.const = true ∧ ∀ c ∈ r.coefs, smallB c = true) :
    DCall Try.prog 64 [i64 V, .sl rnn (rows.map Row.tr), .sl mnn (ms.map u64T)] (.tup [.sl true ((lsumR (List.replicate V zW) ⟨true, 0⟩ rows ms).1.map WI.tr), (lsumR (List.replicate V zW) ⟨true, 0⟩ rows ms).2.tr]) := by
  have o0 := of_d 0 ⟨by decide, by decide⟩
  refine dcall_mk orders Try.func64 rfl (by kernel_rfl) (fun d => d == 7 || d == 9 || d == 11 || d == 12 || d == 16 || d == 43 || d == 45 || d == 47 || d == 54 || d == 58) (by kernel_rfl) rfl (fun hs => ?_)
  clear hs
  generalize hR : lsumR (List.replicate V zW) ⟨true, 0⟩ rows ms = R
  repeat' (first
    | with_reducible refine cdK_splitN (fun h => ?_) (fun h => ?_)
    | with_reducible refine gdK_splitTN (fun h => ?_) (fun h => ?_)
    | with_reducible refine gdK_splitFN (fun h => ?_) (fun h => ?_)
    | with_reducible refine cdK_split (fun h => ?_) (fun h => ?_)
    | with_reducible refine gdK_splitT (fun h => ?_) (fun h => ?_)
    | with_reducible refine gdK_splitF (fun h => ?_) (fun h => ?_)
    | refine clK_mk (o0) rfl ?_
    | simp only [go_sem, Nat.reduceBEq, Nat.reduceAdd, Nat.reduceMul, Nat.reduceSub, Nat.reduceLeDiff, Nat.reduceLT, Nat.reduceEqDiff, Int.reduceEq, Int.reduceBEq, Int.reduceBNe, Int.reduceLT, Int.reduceLE, *])
  refine hpK_if ⟨by omega, by omega⟩ ?_
  repeat' (first
    | with_reducible refine cdK_splitN (fun h => ?_) (fun h => ?_)
    | with_reducible refine gdK_splitTN (fun h => ?_) (fun h => ?_)
    | with_reducible refine gdK_splitFN (fun h => ?_) (fun h => ?_)
    | with_reducible refine cdK_split (fun h => ?_) (fun h => ?_)
    | with_reducible refine gdK_splitT (fun h => ?_) (fun h => ?_)
    | with_reducible refine gdK_splitF (fun h => ?_) (fun h => ?_)
    | refine clK_mk (o0) rfl ?_
    | simp only [go_sem, Nat.reduceBEq, Nat.reduceAdd, Nat.reduceMul, Nat.reduceSub, Nat.reduceLeDiff, Nat.reduceLT, Nat.reduceEqDiff, Int.reduceEq, Int.reduceBEq, Int.reduceBNe, Int.reduceLT, Int.reduceLE, *])
  refine loop_range rows (fun k s' => ∃ (out : List WI) (last : WI), hget s'.hp (16, 0) = some ⟨(flat (out.map WI.tr)).map .t, 2, V, tWInt, true, true⟩ ∧ hget s'.hp (9, 0) = some ⟨last.cs.map .t, 2, 1, tWInt, true, true⟩ ∧ hget s'.hp (7, 0) = some ⟨zW.cs.map .t, 2, 1, tWInt, true, true⟩ ∧ out.length = V ∧ (∀ x ∈ out, x.le k) ∧ last.le k ∧ lsumR out last (rows.drop k) (ms.drop k) = R) rfl rfl (by first | assumption | omega) (by kernel_rfl) (fun _ _ _ _ hj => hj) (fun _ _ _ hj => hj) ?_ (fun k x s' hx hd hk hJ hix hfr G hG => ?_) (fun s' hJ hfr => ?_)
  · refine ⟨List.replicate V zW, ⟨true, 0⟩, ?_, ?_, ?_, by simp, fun x hx => by rw [(List.mem_replicate.1 hx).2]; exact zW_le _ 0, zW_le _ 0, hR⟩
    · rw [zW_row]; rfl
    · rfl
    · rw [zW_cs]; rfl
  · have c2 := hfr 2 (by kernel_rfl)
    have c8 := hfr 8 (by kernel_rfl)
    have c9 := hfr 9 (by kernel_rfl)
    have c18 := hfr 18 (by kernel_rfl)
    clear hfr
    simp only [go_sem, Nat.reduceBEq, Nat.reduceAdd, Nat.reduceMul, Nat.reduceSub, Nat.reduceLeDiff, Nat.reduceLT, Nat.reduceEqDiff, Int.reduceEq, Int.reduceBEq, Int.reduceBNe, Int.reduceLT, Int.reduceLE] at c2 c8 c9 c18
    change _ = PV.rf (16, 0) V at c8
    change _ = PV.ad (9, 0) 1 0 at c9
    obtain ⟨out, last, h16, h9, h7, hol, hole, hlle, hJ⟩ := hJ
    have hkm : k < ms.length := by omega
    obtain ⟨m, hm1, hm2⟩ := get_of_lt ms k hkm
    have hm64 := hms m (List.mem_of_getElem? hm1)
    obtain ⟨hx1', hx2, hx3⟩ := hrow x (List.mem_of_getElem? hx)
    have hx1a : x.coefs.length ≤ V := by omega
    have hx1b : V ≤ x.coefs.length := by omega
    clear hx1'
    rw [hd, hm2, lsumR] at hJ
    have fr1 := from_d m hm64
    have e2 := c2
    have e8 := c8
    have e9 := c9
    by_cases hm0 : m = 0
    · subst hm0
      rw [if_pos rfl] at hJ
      have g0 : (((0 : Nat) : Int) == 0) = true := rfl
      have hole' : ∀ z ∈ out, z.le (k + 1) := fun z hz => Nat.le_trans (hole z hz) (Nat.mul_le_mul_right _ (Nat.le_succ k))
      have hlle' : last.le (k + 1) := Nat.le_trans hlle (Nat.mul_le_mul_right _ (Nat.le_succ k))
      clear hole hlle fr1
      repeat' (first
        | with_reducible refine cdK_splitN (fun h => ?_) (fun h => ?_)
        | with_reducible refine gdK_splitTN (fun h => ?_) (fun h => ?_)
        | with_reducible refine gdK_splitFN (fun h => ?_) (fun h => ?_)
        | with_reducible refine cdK_split (fun h => ?_) (fun h => ?_)
        | with_reducible refine gdK_splitT (fun h => ?_) (fun h => ?_)
        | with_reducible refine gdK_splitF (fun h => ?_) (fun h => ?_)
        | simp only [go_sem, Nat.reduceBEq, Nat.reduceAdd, Nat.reduceMul, Nat.reduceSub, Nat.reduceLeDiff, Nat.reduceLT, Nat.reduceEqDiff, Int.reduceEq, Int.reduceBEq, Int.reduceBNe, Int.reduceLT, Int.reduceLE, *])
      refine hG _ ⟨out, last, ?_, ?_, ?_, hol, hole', hlle', hJ⟩
      · simp only [go_sem, Nat.reduceBEq, Nat.reduceAdd, Nat.reduceMul, Nat.reduceSub, Nat.reduceLeDiff, Nat.reduceLT, Nat.reduceEqDiff, Int.reduceEq, Int.reduceBEq, Int.reduceBNe, Int.reduceLT, Int.reduceLE, h16]
      · simp only [go_sem, Nat.reduceBEq, Nat.reduceAdd, Nat.reduceMul, Nat.reduceSub, Nat.reduceLeDiff, Nat.reduceLT, Nat.reduceEqDiff, Int.reduceEq, Int.reduceBEq, Int.reduceBNe, Int.reduceLT, Int.reduceLE, h9]
      · simp only [go_sem, Nat.reduceBEq, Nat.reduceAdd, Nat.reduceMul, Nat.reduceSub, Nat.reduceLeDiff, Nat.reduceLT, Nat.reduceEqDiff, Int.reduceEq, Int.reduceBEq, Int.reduceBNe, Int.reduceLT, Int.reduceLE, h7]
    · rw [if_neg hm0] at hJ
      have g0 : ((m : Int) == 0) = false := by simpa using hm0
      clear hm0
      repeat' (first
        | with_reducible refine cdK_splitN (fun h => ?_) (fun h => ?_)
        | with_reducible refine gdK_splitTN (fun h => ?_) (fun h => ?_)
        | with_reducible refine gdK_splitFN (fun h => ?_) (fun h => ?_)
        | with_reducible refine cdK_split (fun h => ?_) (fun h => ?_)
        | with_reducible refine gdK_splitT (fun h => ?_) (fun h => ?_)
        | with_reducible refine gdK_splitF (fun h => ?_) (fun h => ?_)
        | refine clK_mk (fr1) rfl ?_
        | simp only [go_sem, Nat.reduceBEq, Nat.reduceAdd, Nat.reduceMul, Nat.reduceSub, Nat.reduceLeDiff, Nat.reduceLT, Nat.reduceEqDiff, Int.reduceEq, Int.reduceBEq, Int.reduceBNe, Int.reduceLT, Int.reduceLE, *])
      obtain ⟨H, hH⟩ : ∃ H, H = s'.hp := ⟨_, rfl⟩
      rw [← hH] at h16 h9 h7 ⊢
      clear hH
      obtain ⟨i, hik⟩ : ∃ i, i = k := ⟨k, rfl⟩
      subst hik
      obtain ⟨r, hrx⟩ : ∃ r, r = x := ⟨x, rfl⟩
      subst hrx
      refine loop_range r.coefs (fun k s' => ∃ cur : List WI, hget s'.hp (16, 0) = some ⟨(flat (cur.map WI.tr)).map .t, 2, V, tWInt, true, true⟩ ∧ hget s'.hp (9, 0) = some ⟨last.cs.map .t, 2, 1, tWInt, true, true⟩ ∧ hget s'.hp (7, 0) = some ⟨zW.cs.map .t, 2, 1, tWInt, true, true⟩ ∧ hget s'.hp (hnext H 11) = some ⟨[.t (.sl r.nn (r.coefs.map (Tr.int .i64))), .t (.int .i64 r.const)], 2, 1, tRow, true, true⟩ ∧ hget s'.hp (hnext H 12) = some ⟨(intC true m).map .t, 2, 1, tWInt, true, true⟩ ∧ cur.length = V ∧ cur.drop k = out.drop k ∧ cur.take k = (addW out r.coefs m).take k) rfl rfl (by first | assumption | omega) (by kernel_rfl) (fun _ _ _ _ hj => hj) (fun _ _ _ hj => hj) ?_ (fun k x s' hx hd hk hJ hix hfr G hG => ?_) (fun s' hJ hfr => ?_)
      · refine ⟨out, ?_, ?_, ?_, ?_, ?_, hol, rfl, rfl⟩
        · simp only [go_sem, Nat.reduceBEq, Nat.reduceAdd, Nat.reduceMul, Nat.reduceSub, Nat.reduceLeDiff, Nat.reduceLT, Nat.reduceEqDiff, Int.reduceEq, Int.reduceBEq, Int.reduceBNe, Int.reduceLT, Int.reduceLE, h16]
        · simp only [go_sem, Nat.reduceBEq, Nat.reduceAdd, Nat.reduceMul, Nat.reduceSub, Nat.reduceLeDiff, Nat.reduceLT, Nat.reduceEqDiff, Int.reduceEq, Int.reduceBEq, Int.reduceBNe, Int.reduceLT, Int.reduceLE, h9]
        · simp only [go_sem, Nat.reduceBEq, Nat.reduceAdd, Nat.reduceMul, Nat.reduceSub, Nat.reduceLeDiff, Nat.reduceLT, Nat.reduceEqDiff, Int.reduceEq, Int.reduceBEq, Int.reduceBNe, Int.reduceLT, Int.reduceLE, h7]
        · simp only [go_sem, Nat.reduceBEq, Nat.reduceAdd, Nat.reduceMul, Nat.reduceSub, Nat.reduceLeDiff, Nat.reduceLT, Nat.reduceEqDiff, Int.reduceEq, Int.reduceBEq, Int.reduceBNe, Int.reduceLT, Int.reduceLE, ]
        · rw [← hnext_new_ne (h := H) (s := 11) (d := 12) _ rfl]; exact hget_new _ _
      · have c8 := hfr 8 (by kernel_rfl)
        have c12 := hfr 12 (by kernel_rfl)
        have c36 := hfr 36 (by kernel_rfl)
        clear hfr
        simp only [go_sem, Nat.reduceBEq, Nat.reduceAdd, Nat.reduceMul, Nat.reduceSub, Nat.reduceLeDiff, Nat.reduceLT, Nat.reduceEqDiff, Int.reduceEq, Int.reduceBEq, Int.reduceBNe, Int.reduceLT, Int.reduceLE] at c8 c12 c36
        rw [hnext_new_ne _ rfl] at c12
        obtain ⟨cur, h16, h9, h7, h11, h12, hcl, hdr, htk⟩ := hJ
        rw [e8] at c8
        have hkV : k < V := by omega
        obtain ⟨y, hy, _⟩ := get_of_lt out k (by omega)
        have hcy : cur[k]? = some y := by
          have := congrArg (fun l => l[0]?) hdr
          simp only [List.getElem?_drop, Nat.add_zero] at this
          rw [this, hy]
        have hxs := smallB_abs (hx3 x (List.mem_of_getElem? hx))
        have hyf := (hole y (List.mem_of_getElem? hy)).fits (by omega)
        have ox := of_d x ⟨by omega, by omega⟩
        have mx := mul_d true true (m : Int) x (mul_fits (c := 1) (by decide) hm64 |> fun h => by simpa using h) (fits_i64 ⟨by omega, by omega⟩)
        have ax := add_d y.nn true y.z ((m : Int) * x) hyf (mul_fits hxs hm64)
        have hload : List.take 2 (List.drop (k * 2) (List.map PV.t (flat (List.map WI.tr cur)))) = y.cs.map PV.t := flat_cells_get (WI_len cur) (by rw [List.getElem?_map, hcy]; rfl)
        have hspl : splice (List.map PV.t (flat (List.map WI.tr cur))) (k * 2) ((⟨true, y.z + m * x⟩ : WI).cs.map PV.t) = List.map PV.t (flat (List.map WI.tr (cur.set k ⟨true, y.z + m * x⟩))) := by
          rw [List.map_set]
          exact flat_splice (WI_len cur) (x := y.tr) (y := (⟨true, y.z + m * x⟩ : WI).tr) (by rw [List.getElem?_map, hcy]; rfl) rfl
        simp only [go_sem] at hload hspl
        have hfl : (flat (List.map WI.tr cur)).length = V * 2 := by rw [flat_length _ 2 (WI_len cur), List.length_map, hcl]
        have hkV1 : k + 1 ≤ V := hkV
        have hkV2 : k * 2 + 2 ≤ V * 2 := by omega
        have hadd : (addW out r.coefs m)[k]? = some ⟨true, y.z + m * x⟩ := by
          unfold addW
          rw [List.getElem?_zipWith, hy, hx]
        have hst : (cur.set k ⟨true, y.z + m * x⟩).take (k + 1) = (addW out r.coefs m).take (k + 1) := by
          rw [take_set_succ _ _ _ (by omega), htk, List.take_add_one, hadd]; rfl
        have hdr2 : (cur.set k ⟨true, y.z + m * x⟩).drop (k + 1) = out.drop (k + 1) := by
          rw [List.drop_set_of_lt (by omega)]
          have := congrArg (List.drop 1) hdr
          simpa only [List.drop_drop] using this
        clear hdr htk hadd hcy hy hyf hxs
        repeat' (first
          | with_reducible refine cdK_splitN (fun h => ?_) (fun h => ?_)
          | with_reducible refine gdK_splitTN (fun h => ?_) (fun h => ?_)
          | with_reducible refine gdK_splitFN (fun h => ?_) (fun h => ?_)
          | with_reducible refine cdK_split (fun h => ?_) (fun h => ?_)
          | with_reducible refine gdK_splitT (fun h => ?_) (fun h => ?_)
          | with_reducible refine gdK_splitF (fun h => ?_) (fun h => ?_)
          | refine clK_mk (ox) rfl ?_
          | refine clK_mk (mx) rfl ?_
          | refine clK_mk (ax) rfl ?_
          | simp only [go_sem, Nat.reduceBEq, Nat.reduceAdd, Nat.reduceMul, Nat.reduceSub, Nat.reduceLeDiff, Nat.reduceLT, Nat.reduceEqDiff, Int.reduceEq, Int.reduceBEq, Int.reduceBNe, Int.reduceLT, Int.reduceLE, *])
        refine hG _ ⟨cur.set k ⟨true, y.z + m * x⟩, ?_, ?_, ?_, ?_, ?_, by simp [hcl], hdr2, hst⟩
        · simp only [go_sem, Nat.reduceBEq, Nat.reduceAdd, Nat.reduceMul, Nat.reduceSub, Nat.reduceLeDiff, Nat.reduceLT, Nat.reduceEqDiff, Int.reduceEq, Int.reduceBEq, Int.reduceBNe, Int.reduceLT, Int.reduceLE, h16]
        · simp only [go_sem, Nat.reduceBEq, Nat.reduceAdd, Nat.reduceMul, Nat.reduceSub, Nat.reduceLeDiff, Nat.reduceLT, Nat.reduceEqDiff, Int.reduceEq, Int.reduceBEq, Int.reduceBNe, Int.reduceLT, Int.reduceLE, h9]
        · simp only [go_sem, Nat.reduceBEq, Nat.reduceAdd, Nat.reduceMul, Nat.reduceSub, Nat.reduceLeDiff, Nat.reduceLT, Nat.reduceEqDiff, Int.reduceEq, Int.reduceBEq, Int.reduceBNe, Int.reduceLT, Int.reduceLE, h7]
        · simp only [go_sem, Nat.reduceBEq, Nat.reduceAdd, Nat.reduceMul, Nat.reduceSub, Nat.reduceLeDiff, Nat.reduceLT, Nat.reduceEqDiff, Int.reduceEq, Int.reduceBEq, Int.reduceBNe, Int.reduceLT, Int.reduceLE, h11]
        · simp only [go_sem, Nat.reduceBEq, Nat.reduceAdd, Nat.reduceMul, Nat.reduceSub, Nat.reduceLeDiff, Nat.reduceLT, Nat.reduceEqDiff, Int.reduceEq, Int.reduceBEq, Int.reduceBNe, Int.reduceLT, Int.reduceLE, h12]
      · obtain ⟨cur, h16, h9, h7, h11, h12, hcl, hdr, htk⟩ := hJ
        have c9 := hfr 9 (by kernel_rfl)
        have c11 := hfr 11 (by kernel_rfl)
        have c12 := hfr 12 (by kernel_rfl)
        clear hfr
        simp only [go_sem, Nat.reduceBEq, Nat.reduceAdd, Nat.reduceMul, Nat.reduceSub, Nat.reduceLeDiff, Nat.reduceLT, Nat.reduceEqDiff, Int.reduceEq, Int.reduceBEq, Int.reduceBNe, Int.reduceLT, Int.reduceLE] at c9 c11 c12
        rw [e9] at c9
        rw [hnext_new_ne _ rfl] at c12
        have hal : (addW out r.coefs m).length = V := by unfold addW; rw [List.length_zipWith]; omega
        rw [List.take_of_length_le (by omega), List.take_of_length_le (by omega)] at htk
        have hcs := smallB_abs hx2
        have hlf := hlle.fits (by omega)
        have ox := of_d r.const ⟨by omega, by omega⟩
        have mx := mul_d true true (m : Int) r.const (mul_fits (c := 1) (by decide) hm64 |> fun h => by simpa using h) (fits_i64 ⟨by omega, by omega⟩)
        have ax := add_d last.nn true last.z ((m : Int) * r.const) hlf (mul_fits hcs hm64)
        clear hdr hlf
        repeat' (first
          | with_reducible refine cdK_splitN (fun h => ?_) (fun h => ?_)
          | with_reducible refine gdK_splitTN (fun h => ?_) (fun h => ?_)
          | with_reducible refine gdK_splitFN (fun h => ?_) (fun h => ?_)
          | with_reducible refine cdK_split (fun h => ?_) (fun h => ?_)
          | with_reducible refine gdK_splitT (fun h => ?_) (fun h => ?_)
          | with_reducible refine gdK_splitF (fun h => ?_) (fun h => ?_)
          | refine clK_mk (ox) rfl ?_
          | refine clK_mk (mx) rfl ?_
          | refine clK_mk (ax) rfl ?_
          | simp only [go_sem, Nat.reduceBEq, Nat.reduceAdd, Nat.reduceMul, Nat.reduceSub, Nat.reduceLeDiff, Nat.reduceLT, Nat.reduceEqDiff, Int.reduceEq, Int.reduceBEq, Int.reduceBNe, Int.reduceLT, Int.reduceLE, *])
        refine hG _ ⟨addW out r.coefs m, ⟨true, last.z + m * r.const⟩, ?_, ?_, ?_, hal, ?_, addWI_le hlle hcs hm64 true, hJ⟩
        · rw [← htk]; simp only [go_sem, Nat.reduceBEq, Nat.reduceAdd, Nat.reduceMul, Nat.reduceSub, Nat.reduceLeDiff, Nat.reduceLT, Nat.reduceEqDiff, Int.reduceEq, Int.reduceBEq, Int.reduceBNe, Int.reduceLT, Int.reduceLE, h16]
        · simp only [go_sem, Nat.reduceBEq, Nat.reduceAdd, Nat.reduceMul, Nat.reduceSub, Nat.reduceLeDiff, Nat.reduceLT, Nat.reduceEqDiff, Int.reduceEq, Int.reduceBEq, Int.reduceBNe, Int.reduceLT, Int.reduceLE, h9]
        · simp only [go_sem, Nat.reduceBEq, Nat.reduceAdd, Nat.reduceMul, Nat.reduceSub, Nat.reduceLeDiff, Nat.reduceLT, Nat.reduceEqDiff, Int.reduceEq, Int.reduceBEq, Int.reduceBNe, Int.reduceLT, Int.reduceLE, h7]
        · intro z hz
          unfold addW at hz
          rw [List.mem_iff_getElem?] at hz
          obtain ⟨j, hj⟩ := hz
          rw [List.getElem?_zipWith] at hj
          cases ho : out[j]? with
          | none => simp [ho] at hj
          | some a =>
            cases hc : r.coefs[j]? with
            | none => simp [ho, hc] at hj
            | some c =>
              simp [ho, hc] at hj
              rw [← hj]
              exact addWI_le (hole a (List.mem_of_getElem? ho)) (smallB_abs (hx3 c (List.mem_of_getElem? hc))) hm64 true
  · obtain ⟨out, last, h16, h9, h7, hol, hole, hlle, hJ⟩ := hJ
    have c7 := hfr 7 (by kernel_rfl)
    have c8 := hfr 8 (by kernel_rfl)
    have c9 := hfr 9 (by kernel_rfl)
    clear hfr
    simp only [go_sem, Nat.reduceBEq, Nat.reduceAdd, Nat.reduceMul, Nat.reduceSub, Nat.reduceLeDiff, Nat.reduceLT, Nat.reduceEqDiff, Int.reduceEq, Int.reduceBEq, Int.reduceBNe, Int.reduceLT, Int.reduceLE] at c7 c8 c9
    change _ = PV.rf (16, 0) V at c8
    change _ = PV.ad (9, 0) 1 0 at c9
    change _ = PV.ad (7, 0) 1 0 at c7
    rw [List.drop_length] at hJ
    have hJ' : R = (out, last) := by rw [← hJ]; cases hmd : ms.drop rows.length <;> rfl
    subst hJ'
    have hdep : ∀ o, toTr (hset s'.hp (7, 0) o) dep (.rf (16, 0) V) = some (.sl true (out.map WI.tr)) := fun o => toTr_flat 5 (ok_WI out) (by simp [hol]) (by rw [hget_set_ne _ rfl]; exact h16)
    clear hR hJ
    repeat' (first
      | with_reducible refine cdK_splitN (fun h => ?_) (fun h => ?_)
      | with_reducible refine gdK_splitTN (fun h => ?_) (fun h => ?_)
      | with_reducible refine gdK_splitFN (fun h => ?_) (fun h => ?_)
      | with_reducible refine cdK_split (fun h => ?_) (fun h => ?_)
      | with_reducible refine gdK_splitT (fun h => ?_) (fun h => ?_)
      | with_reducible refine gdK_splitF (fun h => ?_) (fun h => ?_)
      | simp only [go_sem, Nat.reduceBEq, Nat.reduceAdd, Nat.reduceMul, Nat.reduceSub, Nat.reduceLeDiff, Nat.reduceLT, Nat.reduceEqDiff, Int.reduceEq, Int.reduceBEq, Int.reduceBNe, Int.reduceLT, Int.reduceLE, *])
    all_goals rw [hdep]
end Ytajgclnahfmfmaa
end Go.Vm
