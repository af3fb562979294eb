import Derived.Test.YtihgdplbehempaaGreatMI4
set_option linter.unusedSimpArgs false
set_option linter.unusedVariables false
section
set_option linter.unusedSimpArgs false
set_option maxRecDepth 10000
namespace Go.Vm
open Go Go.Proofs Go.Whole
namespace YtihgdplbehempaaGreat
open Go.Proofs.Tryz
attribute [go_sem] Tryz.results76 Tryz.results25 Tryz.results29 Tryz.results19 Tryz.results24 Tryz.results82 Tryz.results30
abbrev tRow : TypeId := 37
abbrev u64T (n : Nat) : Tr := .int .u64 (n : Int)
abbrev zR : RInt := ⟨false, 0, false, 0⟩
def addRow (out : List RInt) (cs : List Int) (b : Nat) : List RInt := List.zipWith (fun x c => withR x c b) out cs
def sumR : List RInt → RInt → List Row → List Nat → List RInt × RInt
  | out, last, r :: rows, m :: ms => sumR (addRow out r.coefs m) (withR last r.const m) rows ms
  | out, last, _, _ => (out, last)
theorem ok_RInt (l : List RInt) : ∀ x ∈ l.map RInt.tr, elemOK true 2 x := by
  intro x hx
  obtain ⟨y, _, rfl⟩ := List.mem_map.1 hx
  exact ⟨fun _ => rfl, (fun h => nomatch h), rfl⟩
theorem RInt_len (l : List RInt) : ∀ x ∈ l.map RInt.tr, x.cells.length = 2 := fun x hx => (ok_RInt l x hx).2.2
def RInt.le (x : RInt) (k : Nat) : Prop := x.p ≤ k * 19342813113834066795298816 ∧ x.n ≤ k * 19342813113834066795298816
theorem RInt.le.ok {x : RInt} {k : Nat} (h : x.le k) (hk : k ≤ 100000) :
    (digs x.p).length ≤ 4 ∧ (digs x.n).length ≤ 4 := by
  obtain ⟨h1, h2⟩ := h
  have h2 : B ^ 2 = 18446744073709551616 := by decide
  have h3 : B ^ 4 = 340282366920938463463374607431768211456 := by
    rw [Nat.pow_succ, Nat.pow_succ, h2, B_eq]
  constructor
  · refine digs_length_le ?_
    rw [h3]; omega
  · refine digs_length_le ?_
    rw [h3]; omega
theorem withR_le {x : RInt} {k : Nat} (h : x.le k) {c : Int} {m : Nat} (hc : c.natAbs ≤ 1048576) (hm : m < 18446744073709551616) : (withR x c m).le (k + 1) := by
  have : m * c.natAbs ≤ 18446744073709551616 * 1048576 := Nat.mul_le_mul (Nat.le_of_lt hm) hc
  obtain ⟨h1, h2⟩ := h
  rw [show 18446744073709551616 * 1048576 = 19342813113834066795298816 from rfl] at this
  unfold RInt.le
  rw [Nat.succ_mul]
  generalize 19342813113834066795298816 = big at *
  by_cases hc0 : c < 0
  · rw [show withR x c m = _ from if_pos hc0]
    exact ⟨by show x.p ≤ _; omega, by show x.n + m * c.natAbs ≤ _; omega⟩
  · rw [show withR x c m = _ from if_neg hc0]
    exact ⟨by show x.p + m * c.natAbs ≤ _; omega, by show x.n ≤ _; omega⟩
theorem smallB_abs {c : Int} (h : smallB c = true) : c.natAbs ≤ 1048576 := by
  simp [smallB] at h; omega
theorem digs64 {m : Nat} (hm : m < 18446744073709551616) : (digs m).length ≤ 2 := digs_length_le (by rw [show B ^ 2 = 18446744073709551616 by decide]; exact hm)
theorem zR_cs : zR.cs = [.sl false [], .sl false []] := by simp only [RInt.cs, digs_zero, dl_nil]
theorem zR_row (V : Nat) : (flat ((List.replicate V zR).map RInt.tr)).map PV.t = (zrow [.sl false [], .sl false []] V).map PV.t := by
  rw [zrow_flat, List.map_replicate]
  unfold RInt.tr
  rw [zR_cs]
theorem zR_le (k : Nat) : zR.le k := ⟨Nat.zero_le _, Nat.zero_le _⟩
theorem sum_d (V : Nat) (rnn : Bool) (rows : List Row) (mnn : Bool) (ms : List Nat) (hV : V ≤ 128) (hlen : rows.length ≤ 256) (hml : rows.length ≤ ms.length) (hms : ∀ m ∈ ms, m < 18446744073709551616) (hrow : ∀ r ∈ rows, r.coefs.length = V ∧ smallB r.const = true ∧ ∀ c ∈ r.coefs, smallB c = true) :
    DCall Tryz.prog 76 [i64 V, .sl rnn (rows.map Row.tr), .sl mnn (ms.map u64T)] (.tup [.sl true ((sumR (List.replicate V zR) zR rows ms).1.map RInt.tr), (sumR (List.replicate V zR) zR rows ms).2.tr]) := by
  refine dcall_mk orders Tryz.func76 rfl (by kernel_rfl) (fun d => d == 7 || d == 9 || d == 11 || d == 16) (by kernel_rfl) rfl (fun hs => ?_)
  clear hs
  generalize hR : sumR (List.replicate V zR) zR rows ms = R
  repeat' (first
    | (with_reducible first | refine sA ?_ ?_ | refine sB ?_ ?_ | refine sC ?_ ?_ | refine sD ?_ ?_ | refine sE ?_ ?_ | refine sF ?_ ?_) <;> intro h
    | simp only [go_sem, *])
  refine hpK_if ⟨by omega, by omega⟩ ?_
  repeat' (first
    | (with_reducible first | refine sA ?_ ?_ | refine sB ?_ ?_ | refine sC ?_ ?_ | refine sD ?_ ?_ | refine sE ?_ ?_ | refine sF ?_ ?_) <;> intro h
    | simp only [go_sem, *])
  refine loop_range rows (fun k s' => ∃ (out : List RInt) (last : RInt), hget s'.hp (16, 0) = some ⟨(flat (out.map RInt.tr)).map .t, 2, V, tRInt, true, true⟩ ∧ hget s'.hp (9, 0) = some ⟨last.cs.map .t, 2, 1, tRInt, true, true⟩ ∧ hget s'.hp (7, 0) = some ⟨zR.cs.map .t, 2, 1, tRInt, true, true⟩ ∧ out.length = V ∧ (∀ x ∈ out, x.le k) ∧ last.le k ∧ sumR out last (rows.drop k) (ms.drop k) = R) rfl rfl (by first | assumption | omega) (by kernel_rfl) (fun _ _ _ _ hj => hj) (fun _ _ _ hj => hj) ?_ (fun k x s' hx hd hk hJ hix hfr G hG => ?_) (fun s' hJ hfr => ?_)
  · refine ⟨List.replicate V zR, zR, ?_, ?_, ?_, by simp, fun x hx => by rw [(List.mem_replicate.1 hx).2]; exact zR_le 0, zR_le 0, hR⟩
    · rw [zR_row]; rfl
    · rw [zR_cs]; rfl
    · rw [zR_cs]; rfl
  · have c2 := hfr 2 (by kernel_rfl)
    have c8 := hfr 8 (by kernel_rfl)
    have c9 := hfr 9 (by kernel_rfl)
    have c17 := hfr 17 (by kernel_rfl)
    clear hfr
    simp only [go_sem] at c2 c8 c9 c17
    change _ = PV.rf (16, 0) V at c8
    change _ = PV.ad (9, 0) 1 0 at c9
    obtain ⟨out, last, h16, h9, h7, hol, hole, hlle, hJ⟩ := hJ
    have hkm : k < ms.length := by omega
    obtain ⟨m, hm1, hm2⟩ := get_of_lt ms k hkm
    have hm64 := hms m (List.mem_of_getElem? hm1)
    obtain ⟨hx1', hx2, hx3⟩ := hrow x (List.mem_of_getElem? hx)
    have hx1a : x.coefs.length ≤ V := by omega
    have hx1b : V ≤ x.coefs.length := by omega
    clear hx1'
    rw [hd, hm2, sumR] at hJ
    have of1 := ofN_d m hm64
    have e2 := c2
    have e8 := c8
    have e9 := c9
    repeat' (first
      | (with_reducible first | refine sA ?_ ?_ | refine sB ?_ ?_ | refine sC ?_ ?_ | refine sD ?_ ?_ | refine sE ?_ ?_ | refine sF ?_ ?_) <;> intro h
      | refine clK_mk (of1) rfl ?_
      | simp only [go_sem, *])
    obtain ⟨H, hH⟩ : ∃ H, H = s'.hp := ⟨_, rfl⟩
    rw [← hH] at h16 h9 h7 ⊢
    clear hH
    obtain ⟨i, hik⟩ : ∃ i, i = k := ⟨k, rfl⟩
    subst hik
    obtain ⟨r, hrx⟩ : ∃ r, r = x := ⟨x, rfl⟩
    subst hrx
    refine loop_range r.coefs (fun k s' => ∃ cur : List RInt, hget s'.hp (16, 0) = some ⟨(flat (cur.map RInt.tr)).map .t, 2, V, tRInt, true, true⟩ ∧ hget s'.hp (9, 0) = some ⟨last.cs.map .t, 2, 1, tRInt, true, true⟩ ∧ hget s'.hp (7, 0) = some ⟨zR.cs.map .t, 2, 1, tRInt, true, true⟩ ∧ hget s'.hp (hnext H 11) = some ⟨[.t (.sl r.nn (r.coefs.map (Tr.int .i64))), .t (.int .i64 r.const)], 2, 1, tRow, true, true⟩ ∧ cur.length = V ∧ cur.drop k = out.drop k ∧ cur.take k = (addRow out r.coefs m).take k) rfl rfl (by first | assumption | omega) (by kernel_rfl) (fun _ _ _ _ hj => hj) (fun _ _ _ hj => hj) ?_ (fun k x s' hx hd hk hJ hix hfr G hG => ?_) (fun s' hJ hfr => ?_)
    · refine ⟨out, ?_, ?_, ?_, ?_, hol, rfl, rfl⟩
      · simp only [go_sem, h16]
      · simp only [go_sem, h9]
      · simp only [go_sem, h7]
      · exact hget_new _ _
    · have c8 := hfr 8 (by kernel_rfl)
      have c12 := hfr 12 (by kernel_rfl)
      have c30 := hfr 30 (by kernel_rfl)
      clear hfr
      simp only [go_sem] at c8 c12 c30
      obtain ⟨cur, h16, h9, h7, h11, hcl, hdr, htk⟩ := hJ
      rw [e8] at c8
      have hkV : k < V := by omega
      obtain ⟨y, hy, _⟩ := get_of_lt out k (by omega)
      have hcy : cur[k]? = some y := by
        have := congrArg (fun l => l[0]?) hdr
        simp only [List.getElem?_drop, Nat.add_zero] at this
        rw [this, hy]
      have hxs := smallB_abs (hx3 x (List.mem_of_getElem? hx))
      have hyo := (hole y (List.mem_of_getElem? hy)).ok (by omega)
      have w1 := with_d y x true m ⟨by omega, by omega⟩ (Nat.le_trans (digs64 hm64) (by decide)) (by omega) (by omega)
      have hload : List.take 2 (List.drop (k * 2) (List.map PV.t (flat (List.map RInt.tr cur)))) = y.cs.map PV.t := flat_cells_get (RInt_len cur) (by rw [List.getElem?_map, hcy]; rfl)
      have hspl : splice (List.map PV.t (flat (List.map RInt.tr cur))) (k * 2) ((withR y x m).cs.map PV.t) = List.map PV.t (flat (List.map RInt.tr (cur.set k (withR y x m)))) := by
        rw [List.map_set]
        exact flat_splice (RInt_len cur) (x := y.tr) (y := (withR y x m).tr) (by rw [List.getElem?_map, hcy]; rfl) rfl
      simp only [go_sem] at hload hspl
      have hfl : (flat (List.map RInt.tr cur)).length = V * 2 := by rw [flat_length _ 2 (RInt_len cur), List.length_map, hcl]
      have hkV1 : k + 1 ≤ V := hkV
      have hkV2 : k * 2 + 2 ≤ V * 2 := by omega
      have hadd : (addRow out r.coefs m)[k]? = some (withR y x m) := by
        unfold addRow
        rw [List.getElem?_zipWith, hy, hx]
      have hset : (cur.set k (withR y x m)).take (k + 1) = (addRow out r.coefs m).take (k + 1) := by
        rw [take_set_succ _ _ _ (by omega), htk, List.take_add_one, hadd]; rfl
      have hdr2 : (cur.set k (withR y x m)).drop (k + 1) = out.drop (k + 1) := by
        rw [List.drop_set_of_lt (by omega)]
        have := congrArg (List.drop 1) hdr
        simpa only [List.drop_drop] using this
      clear hdr htk hadd hcy hy hyo hxs
      repeat' (first
        | (with_reducible first | refine sA ?_ ?_ | refine sB ?_ ?_ | refine sC ?_ ?_ | refine sD ?_ ?_ | refine sE ?_ ?_ | refine sF ?_ ?_) <;> intro h
        | refine clK_mk (w1) rfl ?_
        | simp only [go_sem, *])
      refine hG _ ⟨cur.set k (withR y x m), ?_, ?_, ?_, ?_, by simp [hcl], hdr2, hset⟩
      · simp only [go_sem, h16]
      · simp only [go_sem, h9]
      · simp only [go_sem, h7]
      · simp only [go_sem, h11]
    · obtain ⟨cur, h16, h9, h7, h11, hcl, hdr, htk⟩ := hJ
      have c9 := hfr 9 (by kernel_rfl)
      have c11 := hfr 11 (by kernel_rfl)
      have c12 := hfr 12 (by kernel_rfl)
      clear hfr
      simp only [go_sem] at c9 c11 c12
      rw [e9] at c9
      have hal : (addRow out r.coefs m).length = V := by unfold addRow; rw [List.length_zipWith]; omega
      rw [List.take_of_length_le (by omega), List.take_of_length_le (by omega)] at htk
      have hcs := smallB_abs hx2
      have hlo := hlle.ok (by omega)
      have w1 := with_d last r.const true m ⟨by omega, by omega⟩ (Nat.le_trans (digs64 hm64) (by decide)) (by omega) (by omega)
      clear hdr hlo
      repeat' (first
        | (with_reducible first | refine sA ?_ ?_ | refine sB ?_ ?_ | refine sC ?_ ?_ | refine sD ?_ ?_ | refine sE ?_ ?_ | refine sF ?_ ?_) <;> intro h
        | refine clK_mk (w1) rfl ?_
        | simp only [go_sem, *])
      refine hG _ ⟨addRow out r.coefs m, withR last r.const m, ?_, ?_, ?_, hal, ?_, withR_le hlle hcs hm64, hJ⟩
      · rw [← htk]; simp only [go_sem, h16]
      · simp only [go_sem, h9]
      · simp only [go_sem, h7]
      · intro z hz
        unfold addRow at hz
        rw [List.mem_iff_getElem?] at hz
        obtain ⟨j, hj⟩ := hz
        rw [List.getElem?_zipWith] at hj
        cases ho : out[j]? with
        | none => simp [ho] at hj
        | some a =>
          cases hc : r.coefs[j]? with
          | none => simp [ho, hc] at hj
          | some c =>
            simp [ho, hc] at hj
            rw [← hj]
            exact withR_le (hole a (List.mem_of_getElem? ho)) (smallB_abs (hx3 c (List.mem_of_getElem? hc))) hm64
  · obtain ⟨out, last, h16, h9, h7, hol, hole, hlle, hJ⟩ := hJ
    have c7 := hfr 7 (by kernel_rfl)
    have c8 := hfr 8 (by kernel_rfl)
    have c9 := hfr 9 (by kernel_rfl)
    clear hfr
    simp only [go_sem] at c7 c8 c9
    change _ = PV.rf (16, 0) V at c8
    change _ = PV.ad (9, 0) 1 0 at c9
    change _ = PV.ad (7, 0) 1 0 at c7
    rw [List.drop_length] at hJ
    have hJ' : R = (out, last) := by rw [← hJ]; cases hmd : ms.drop rows.length <;> rfl
    subst hJ'
    have hdep : ∀ o, toTr (hset s'.hp (7, 0) o) dep (.rf (16, 0) V) = some (.sl true (out.map RInt.tr)) := fun o => toTr_flat 5 (ok_RInt out) (by simp [hol]) (by rw [hget_set_ne _ rfl]; exact h16)
    clear hR hJ
    repeat' (first
      | (with_reducible first | refine sA ?_ ?_ | refine sB ?_ ?_ | refine sC ?_ ?_ | refine sD ?_ ?_ | refine sE ?_ ?_ | refine sF ?_ ?_) <;> intro h
      | simp only [go_sem, *])
    all_goals rw [hdep]
theorem mults_d (rnn : Bool) (rows : List Row) (mnn : Bool) (ms : List Nat) : DCall Tryz.prog 24 [.sl rnn (rows.map Row.tr), .sl mnn (ms.map u64T)] (.bool (decide (ms.length = rows.length) && ms.all (fun m => decide (m ≤ 4611686018427387904)))) := by
  refine dcall_mk orders Tryz.func24 rfl (by kernel_rfl) noMu (by kernel_rfl) rfl (fun hs => ?_)
  simp [sizedL, Tr.sized] at hs
  obtain ⟨⟨hs1, _⟩, hs2, _⟩ := hs
  by_cases hl : ms.length = rows.length
  · have g1 : ((ms.length : Int) != (rows.length : Int)) = false := by simp; omega
    rw [decide_eq_true hl, Bool.true_and]
    clear hl
    repeat' (first
      | (with_reducible first | refine sA ?_ ?_ | refine sB ?_ ?_ | refine sC ?_ ?_ | refine sD ?_ ?_ | refine sE ?_ ?_ | refine sF ?_ ?_) <;> intro h
      | simp only [go_sem, *])
    refine loop_range ms (fun k s' => ms.all (fun m => decide (m ≤ 4611686018427387904)) = (ms.drop k).all (fun m => decide (m ≤ 4611686018427387904))) rfl rfl (by first | assumption | omega) (by kernel_rfl) (fun _ _ _ _ hj => hj) (fun _ _ _ hj => hj) ?_ (fun k x s' hx hd hk hJ hix hfr G hG => ?_) (fun s' hJ hfr => ?_)
    · rfl
    · have c12 := hfr 12 (by kernel_rfl)
      clear hfr
      simp only [go_sem] at c12
      rw [hd, List.all_cons] at hJ
      by_cases hx1 : x ≤ 4611686018427387904
      · have g2 : decide ((x : Int) > 4611686018427387904) = false := decide_eq_false (by omega)
        rw [decide_eq_true hx1, Bool.true_and] at hJ
        clear hx1
        repeat' (first
          | (with_reducible first | refine sA ?_ ?_ | refine sB ?_ ?_ | refine sC ?_ ?_ | refine sD ?_ ?_ | refine sE ?_ ?_ | refine sF ?_ ?_) <;> intro h
          | simp only [go_sem, *])
      · have g2 : decide ((x : Int) > 4611686018427387904) = true := decide_eq_true (by omega)
        rw [decide_eq_false hx1, Bool.false_and] at hJ
        clear hx1
        repeat' (first
          | (with_reducible first | refine sA ?_ ?_ | refine sB ?_ ?_ | refine sC ?_ ?_ | refine sD ?_ ?_ | refine sE ?_ ?_ | refine sF ?_ ?_) <;> intro h
          | simp only [go_sem, *])
    · simp only [List.drop_length, List.all_nil] at hJ
      repeat' (first
        | (with_reducible first | refine sA ?_ ?_ | refine sB ?_ ?_ | refine sC ?_ ?_ | refine sD ?_ ?_ | refine sE ?_ ?_ | refine sF ?_ ?_) <;> intro h
        | simp only [go_sem, *])
  · have g1 : ((ms.length : Int) != (rows.length : Int)) = true := by simpa using fun h => hl (by omega)
    rw [decide_eq_false hl, Bool.false_and]
    clear hl
    repeat' (first
      | (with_reducible first | refine sA ?_ ?_ | refine sB ?_ ?_ | refine sC ?_ ?_ | refine sD ?_ ?_ | refine sE ?_ ?_ | refine sF ?_ ?_) <;> intro h
      | simp only [go_sem, *])
end YtihgdplbehempaaGreat
end Go.Vm
end
section
set_option linter.unusedSimpArgs false
set_option maxRecDepth 10000
namespace Go.Vm
open Go Go.Proofs Go.Whole
namespace YtihgdplbehempaaGreat
open Go.Proofs.Tryz
def sysErr (vars : Int) (rows : List Row) : Int := if decide (vars < 0) || decide (vars > 128) then 2 else if decide ((rows.length : Int) > 256) then 3 else if rows.all (rightB vars) then 0 else 2
theorem refSys_d (vars : Int) (rnn : Bool) (rows : List Row) : DCall Tryz.prog 19 [i64 vars, .sl rnn (rows.map Row.tr)] (i64 (sysErr vars rows)) := by
  refine dcall_mk orders Tryz.func19 rfl (by kernel_rfl) (fun d => d == 6) (by kernel_rfl) rfl (fun hs => ?_)
  simp [sizedL, Tr.sized] at hs
  obtain ⟨hs1, _⟩ := hs
  repeat' (first
    | (with_reducible first | refine sA ?_ ?_ | refine sB ?_ ?_ | refine sC ?_ ?_ | refine sD ?_ ?_ | refine sE ?_ ?_ | refine sF ?_ ?_) <;> intro h
    | simp only [go_sem, *])
  try any_goals (refine congrArg some ?_; first | rfl | (simp only [go_sem, sysErr, *]; done) | (simp only [go_sem, sysErr, *]; rfl) | (simp_all [sysErr]; done))
  refine loop_range rows (fun k s' => rows.all (rightB vars) = (rows.drop k).all (rightB vars)) rfl rfl (by first | assumption | omega) (by kernel_rfl) (fun _ _ _ _ hj => hj) (fun _ _ _ hj => hj) ?_ (fun k x s' hx hd hk hJ hix hfr G hG => ?_) (fun s' hJ hfr => ?_)
  · rfl
  · have c0 := hfr 0 (by kernel_rfl)
    have c16 := hfr 16 (by kernel_rfl)
    clear hfr
    simp only [go_sem] at c0 c16
    rw [hd, List.all_cons] at hJ
    repeat' (first
      | (with_reducible first | refine sA ?_ ?_ | refine sB ?_ ?_ | refine sC ?_ ?_ | refine sD ?_ ?_ | refine sE ?_ ?_ | refine sF ?_ ?_) <;> intro h
      | refine clK_mk (right_d vars x) rfl ?_
      | simp only [go_sem, *])
    try any_goals (refine congrArg some ?_; first | rfl | (simp only [go_sem, sysErr, *]; done) | (simp only [go_sem, sysErr, *]; rfl) | (simp_all [sysErr]; done))
    try any_goals (refine hG _ ?_; simp only [go_sem, sysErr, *]; done)
  · simp only [List.drop_length, List.all_nil] at hJ
    repeat' (first
      | (with_reducible first | refine sA ?_ ?_ | refine sB ?_ ?_ | refine sC ?_ ?_ | refine sD ?_ ?_ | refine sE ?_ ?_ | refine sF ?_ ?_) <;> intro h
      | simp only [go_sem, *])
    try any_goals (refine congrArg some ?_; first | rfl | (simp only [go_sem, sysErr, *]; done) | (simp only [go_sem, sysErr, *]; rfl) | (simp_all [sysErr]; done))
def refutesR (q : List RInt × RInt) : Bool := q.1.all (fun x => decide (x.p = x.n)) && decide (q.2.p < q.2.n)
theorem sumR_le : ∀ (rows : List Row) (ms : List Nat) (out : List RInt) (last : RInt) (k : Nat), (∀ m ∈ ms, m < 18446744073709551616) → (∀ r ∈ rows, smallB r.const = true ∧ ∀ c ∈ r.coefs, smallB c = true) → (∀ x ∈ out, x.le k) → last.le k →
    (∀ x ∈ (sumR out last rows ms).1, x.le (k + rows.length)) ∧ (sumR out last rows ms).2.le (k + rows.length)
  | [], ms, out, last, k, _, _, h1, h2 => by cases ms <;> exact ⟨h1, h2⟩
  | r :: rows, [], out, last, k, _, _, h1, h2 => by
    refine ⟨fun x hx => ?_, ?_⟩
    · have := h1 x hx; unfold RInt.le at *; simp only [List.length_cons]; constructor <;> refine Nat.le_trans (by first | exact this.1 | exact this.2) (Nat.mul_le_mul_right _ (by omega))
    · unfold RInt.le at *; simp only [List.length_cons]; constructor <;> refine Nat.le_trans (by first | exact h2.1 | exact h2.2) (Nat.mul_le_mul_right _ (by omega))
  | r :: rows, m :: ms, out, last, k, hm, hr, h1, h2 => by
    have hr0 := hr r (by simp)
    have hm0 := hm m (by simp)
    have := sumR_le rows ms (addRow out r.coefs m) (withR last r.const m) (k + 1) (fun x hx => hm x (by simp [hx])) (fun x hx => hr x (by simp [hx])) (fun z hz => by
      unfold addRow at hz
      rw [List.mem_iff_getElem?] at hz
      obtain ⟨j, hj⟩ := hz
      rw [List.getElem?_zipWith] at hj
      cases ho : out[j]? with
      | none => simp [ho] at hj
      | some a =>
        cases hc : r.coefs[j]? with
        | none => simp [ho, hc] at hj
        | some c =>
          simp [ho, hc] at hj
          rw [← hj]
          exact withR_le (h1 a (List.mem_of_getElem? ho)) (smallB_abs (hr0.2 c (List.mem_of_getElem? hc))) hm0) (withR_le h2 (smallB_abs hr0.1) hm0)
    simp only [sumR, List.length_cons]
    rw [show k + (rows.length + 1) = k + 1 + rows.length by omega]
    exact this
theorem sumR_len {V : Nat} : ∀ (rows : List Row) (ms : List Nat) (out : List RInt) (last : RInt), out.length = V → (∀ r ∈ rows, r.coefs.length = V) → (sumR out last rows ms).1.length = V
  | [], ms, out, last, h, _ => by cases ms <;> exact h
  | r :: rows, [], out, last, h, _ => h
  | r :: rows, m :: ms, out, last, h, hr => by
    simp only [sumR]
    exact sumR_len rows ms _ _ (by unfold addRow; rw [List.length_zipWith, h, hr r (by simp), Nat.min_self]) (fun x hx => hr x (by simp [hx]))
structure Sys (V : Nat) (rows : List Row) : Prop where
  v : V ≤ 128
  n : rows.length ≤ 256
  r : ∀ r ∈ rows, r.coefs.length = V ∧ smallB r.const = true ∧ ∀ c ∈ r.coefs, smallB c = true
theorem RInt.le.ok' {x : RInt} {k : Nat} (h : x.le k) (hk : k ≤ 100000) : x.ok := ⟨Nat.le_trans (h.ok hk).1 (by decide), Nat.le_trans (h.ok hk).2 (by decide)⟩
theorem refRefutes_d (V : Nat) (rnn : Bool) (rows : List Row) (mnn : Bool) (ms : List Nat) (hs0 : Sys V rows) (hml : rows.length ≤ ms.length) (hms : ∀ m ∈ ms, m < 18446744073709551616) :
    DCall Tryz.prog 25 [i64 V, .sl rnn (rows.map Row.tr), .sl mnn (ms.map u64T)] (.bool (refutesR (sumR (List.replicate V zR) zR rows ms))) := by
  have hsum := sum_d V rnn rows mnn ms hs0.v hs0.n hml hms hs0.r
  obtain ⟨hle1, hle2⟩ := sumR_le rows ms (List.replicate V zR) zR 0 hms (fun r hr => (hs0.r r hr).2) (fun x hx => by rw [(List.mem_replicate.1 hx).2]; exact zR_le 0) (zR_le 0)
  rw [Nat.zero_add] at hle1 hle2
  have hn := hs0.n
  have hol := sumR_len rows ms (List.replicate V zR) zR (by simp) (fun r hr => (hs0.r r hr).1)
  have hv := hs0.v
  rw [← hol] at hv
  clear hs0 hml hms hol
  generalize sumR (List.replicate V zR) zR rows ms = R at *
  obtain ⟨out, last⟩ := R
  simp only at hsum hle1 hle2 hv
  have hneg := negative_d last (hle2.ok' (by omega))
  have hz := fun x hx => zero_d x ((hle1 x hx).ok' (by omega))
  unfold refutesR
  simp only
  refine dcall_mk orders Tryz.func25 rfl (by kernel_rfl) (fun d => d == 8 || d == 10) (by kernel_rfl) rfl (fun hs => ?_)
  clear hs
  repeat' (first
    | (with_reducible first | refine sA ?_ ?_ | refine sB ?_ ?_ | refine sC ?_ ?_ | refine sD ?_ ?_ | refine sE ?_ ?_ | refine sF ?_ ?_) <;> intro h
    | refine clK_mk (hsum) rfl ?_
    | simp only [go_sem, *])
  refine loop_range out (fun k s' => hget s'.hp (8, 0) = some ⟨last.cs.map .t, 2, 1, tRInt, true, true⟩ ∧ out.all (fun x => decide (x.p = x.n)) = (out.drop k).all (fun x => decide (x.p = x.n))) rfl rfl (by first | assumption | omega) (by kernel_rfl) (fun _ _ _ _ hj => hj) (fun _ _ _ hj => hj) ?_ (fun k x s' hx hd hk hJ hix hfr G hG => ?_) (fun s' hJ hfr => ?_)
  · exact ⟨rfl, rfl⟩
  · have c8 := hfr 8 (by kernel_rfl)
    have c18 := hfr 18 (by kernel_rfl)
    clear hfr
    simp only [go_sem] at c8 c18
    change _ = PV.ad (8, 0) 1 0 at c8
    obtain ⟨h8, hJ⟩ := hJ
    rw [hd, List.all_cons] at hJ
    have hz1 := hz x (List.mem_of_getElem? hx)
    generalize decide (x.p = x.n) = zb at *
    cases zb with
    | true =>
      rw [Bool.true_and] at hJ
      repeat' (first
        | (with_reducible first | refine sA ?_ ?_ | refine sB ?_ ?_ | refine sC ?_ ?_ | refine sD ?_ ?_ | refine sE ?_ ?_ | refine sF ?_ ?_) <;> intro h
        | refine clK_mk (hz1) rfl ?_
        | simp only [go_sem, *])
    | false =>
      rw [Bool.false_and] at hJ
      repeat' (first
        | (with_reducible first | refine sA ?_ ?_ | refine sB ?_ ?_ | refine sC ?_ ?_ | refine sD ?_ ?_ | refine sE ?_ ?_ | refine sF ?_ ?_) <;> intro h
        | refine clK_mk (hz1) rfl ?_
        | simp only [go_sem, *])
  · have c8 := hfr 8 (by kernel_rfl)
    clear hfr
    simp only [go_sem] at c8
    change _ = PV.ad (8, 0) 1 0 at c8
    obtain ⟨h8, hJ⟩ := hJ
    rw [List.drop_length, List.all_nil] at hJ
    rw [hJ, Bool.true_and]
    repeat' (first
      | (with_reducible first | refine sA ?_ ?_ | refine sB ?_ ?_ | refine sC ?_ ?_ | refine sD ?_ ?_ | refine sE ?_ ?_ | refine sF ?_ ?_) <;> intro h
      | refine clK_mk (hneg) rfl ?_
      | simp only [go_sem, *])
theorem ok_rows (l : List Row) : ∀ x ∈ l.map Row.tr, elemOK true 2 x := by
  intro x hx
  obtain ⟨y, _, rfl⟩ := List.mem_map.1 hx
  exact ⟨fun _ => rfl, (fun h => nomatch h), rfl⟩
structure Cert where
  scale : Nat
  mnn : Bool
  ms : List Nat
def Cert.tr (f : Cert) : Tr := .agg [.int .u64 (f.scale : Int), .sl f.mnn (f.ms.map u64T)]
attribute [go_sem] Cert.tr
def mostR (x y : RInt) : Bool := !decide (y.p + x.n < x.p + y.n)
def eqGo : List RInt → List Int → Nat → Bool
  | c :: out, a :: l, b => (mostR c (withR zR a b) && mostR (withR zR a b) c) && eqGo out l b
  | _, _, _ => true
def provesR (q : List RInt × RInt) (row : Row) (sc : Nat) : Bool := if sc = 0 then refutesR q else eqGo q.1 row.coefs sc && mostR q.2 (withR zR row.const sc)
set_option maxHeartbeats 1000000 in
theorem refProves_d (V : Nat) (rnn : Bool) (rows : List Row) (row : Row) (f : Cert) (hs0 : Sys V rows) (hrow : row.coefs.length = V ∧ smallB row.const = true ∧ ∀ c ∈ row.coefs, smallB c = true) (hml : rows.length ≤ f.ms.length) (hms : ∀ m ∈ f.ms, m < 18446744073709551616) (hsc : f.scale < 18446744073709551616) :
    DCall Tryz.prog 82 [i64 V, .sl rnn (rows.map Row.tr), row.tr, f.tr] (.bool (provesR (sumR (List.replicate V zR) zR rows f.ms) row f.scale)) := by
  obtain ⟨sc, mnn, ms⟩ := f
  simp only at hml hms hsc ⊢
  have hsum := sum_d V rnn rows mnn ms hs0.v hs0.n hml hms hs0.r
  have href := refRefutes_d V rnn rows mnn ms hs0 hml hms
  obtain ⟨hle1, hle2⟩ := sumR_le rows ms (List.replicate V zR) zR 0 hms (fun r hr => (hs0.r r hr).2) (fun x hx => by rw [(List.mem_replicate.1 hx).2]; exact zR_le 0) (zR_le 0)
  rw [Nat.zero_add] at hle1 hle2
  have hn := hs0.n
  have hol := sumR_len rows ms (List.replicate V zR) zR (by simp) (fun r hr => (hs0.r r hr).1)
  have hv := hs0.v
  clear hs0 hml hms
  generalize sumR (List.replicate V zR) zR rows ms = R at *
  obtain ⟨out, last⟩ := R
  simp only at hsum hle1 hle2 hv hol
  obtain ⟨hr1, hr2, hr3⟩ := hrow
  have hol1 : out.length ≤ row.coefs.length := by omega
  have hol2 : out.length ≤ 128 := by omega
  clear hol hr1
  by_cases h0 : sc = 0
  · subst h0
    rw [show provesR (out, last) row 0 = refutesR (out, last) from if_pos rfl]
    have g1 : (((0 : Nat) : Int) == 0) = true := rfl
    refine dcall_mk orders Tryz.func82 rfl (by kernel_rfl) (fun d => d == 10 || d == 13 || d == 14) (by kernel_rfl) rfl (fun hs => ?_)
    clear hs
    repeat' (first
      | (with_reducible first | refine sA ?_ ?_ | refine sB ?_ ?_ | refine sC ?_ ?_ | refine sD ?_ ?_ | refine sE ?_ ?_ | refine sF ?_ ?_) <;> intro h
      | refine clK_mk (href) rfl ?_
      | simp only [go_sem, *])
  · rw [show provesR (out, last) row sc = (eqGo out row.coefs sc && mostR last (withR zR row.const sc)) from if_neg h0]
    have g1 : ((sc : Int) == 0) = false := by simpa using h0
    have hof := ofN_d sc hsc
    have hby := fun a (ha : smallB a = true) => with_d zR a true sc ⟨by have := smallB_abs ha; omega, by have := smallB_abs ha; omega⟩ (Nat.le_trans (digs64 hsc) (by decide)) (by rw [show zR.p = 0 from rfl, digs_zero]; simp) (by rw [show zR.n = 0 from rfl, digs_zero]; simp)
    have hwo := fun a (ha : smallB a = true) => (withR_le (zR_le 0) (smallB_abs ha) hsc).ok' (by decide)
    have hmo1 := fun x (hx : x ∈ out) a (ha : smallB a = true) => most_d x (withR zR a sc) ((hle1 x hx).ok' (by omega)) (hwo a ha)
    have hmo2 := fun x (hx : x ∈ out) a (ha : smallB a = true) => most_d (withR zR a sc) x (hwo a ha) ((hle1 x hx).ok' (by omega))
    have hml := most_d last (withR zR row.const sc) (hle2.ok' (by omega)) (hwo _ hr2)
    have hbyc := hby row.const hr2
    clear hle1 hle2 hwo
    have hz : ∀ (l : List Tr) (P : Prop), P → P := fun _ _ h => h
    unfold RInt.tr at hby hbyc
    rw [zR_cs] at hbyc
    simp only [zR_cs] at hby
    refine dcall_mk orders Tryz.func82 rfl (by kernel_rfl) (fun d => d == 10 || d == 13 || d == 14) (by kernel_rfl) rfl (fun hs => ?_)
    clear hs
    repeat' (first
      | (with_reducible first | refine sA ?_ ?_ | refine sB ?_ ?_ | refine sC ?_ ?_ | refine sD ?_ ?_ | refine sE ?_ ?_ | refine sF ?_ ?_) <;> intro h
      | refine clK_mk (hsum) rfl ?_
      | refine clK_mk (hof) rfl ?_
      | simp only [go_sem, *])
    refine loop_range out (fun k s' => hget s'.hp (10, 0) = some ⟨last.cs.map .t, 2, 1, tRInt, true, true⟩ ∧ eqGo out row.coefs sc = eqGo (out.drop k) (row.coefs.drop k) sc) rfl rfl (by first | assumption | omega) (by kernel_rfl) (fun _ _ _ _ hj => hj) (fun _ _ _ hj => hj) ?_ (fun k x s' hx hd hk hJ hix hfr G hG => ?_) (fun s' hJ hfr => ?_)
    · exact ⟨rfl, rfl⟩
    · have c6 := hfr 6 (by kernel_rfl)
      have c11 := hfr 11 (by kernel_rfl)
      have c34 := hfr 34 (by kernel_rfl)
      clear hfr
      simp only [go_sem] at c6 c11 c34
      obtain ⟨h10, hJ⟩ := hJ
      obtain ⟨a, ha, had⟩ := get_of_lt row.coefs k (by omega)
      have hasm := hr3 a (List.mem_of_getElem? ha)
      rw [hd, had, eqGo] at hJ
      have m1 := hmo1 x (List.mem_of_getElem? hx) a hasm
      have m2 := hmo2 x (List.mem_of_getElem? hx) a hasm
      have b1 := hby a hasm
      change DCall _ _ _ (.bool (mostR x (withR zR a sc))) at m1
      change DCall _ _ _ (.bool (mostR (withR zR a sc) x)) at m2
      unfold RInt.tr at m1 m2
      generalize mostR x (withR zR a sc) = z1 at *
      generalize mostR (withR zR a sc) x = z2 at *
      generalize withR zR a sc = W at *
      cases z1 with
      | false =>
        rw [Bool.false_and, Bool.false_and] at hJ
        repeat' (first
          | (with_reducible first | refine sA ?_ ?_ | refine sB ?_ ?_ | refine sC ?_ ?_ | refine sD ?_ ?_ | refine sE ?_ ?_ | refine sF ?_ ?_) <;> intro h
          | refine clK_mk (b1) rfl ?_
          | refine clK_mk (m1) rfl ?_
          | simp only [go_sem, *])
      | true =>
        cases z2 with
        | false =>
          rw [Bool.true_and, Bool.false_and] at hJ
          repeat' (first
            | (with_reducible first | refine sA ?_ ?_ | refine sB ?_ ?_ | refine sC ?_ ?_ | refine sD ?_ ?_ | refine sE ?_ ?_ | refine sF ?_ ?_) <;> intro h
            | refine clK_mk (b1) rfl ?_
            | refine clK_mk (m1) rfl ?_
            | refine clK_mk (m2) rfl ?_
            | simp only [go_sem, *])
        | true =>
          rw [Bool.true_and, Bool.true_and] at hJ
          repeat' (first
            | (with_reducible first | refine sA ?_ ?_ | refine sB ?_ ?_ | refine sC ?_ ?_ | refine sD ?_ ?_ | refine sE ?_ ?_ | refine sF ?_ ?_) <;> intro h
            | refine clK_mk (b1) rfl ?_
            | refine clK_mk (m1) rfl ?_
            | refine clK_mk (m2) rfl ?_
            | simp only [go_sem, *])
    · have c6 := hfr 6 (by kernel_rfl)
      have c10 := hfr 10 (by kernel_rfl)
      have c11 := hfr 11 (by kernel_rfl)
      clear hfr
      simp only [go_sem] at c6 c10 c11
      change _ = PV.ad (10, 0) 1 0 at c10
      obtain ⟨h10, hJ⟩ := hJ
      rw [List.drop_length] at hJ
      have hJ' : eqGo out row.coefs sc = true := by rw [hJ]; cases hdd : row.coefs.drop out.length <;> rfl
      rw [hJ', Bool.true_and]
      change DCall _ _ _ (.bool (mostR last (withR zR row.const sc))) at hml
      unfold RInt.tr at hml
      clear hJ hJ'
      generalize mostR last (withR zR row.const sc) = z1 at *
      generalize withR zR row.const sc = W at *
      repeat' (first
        | (with_reducible first | refine sA ?_ ?_ | refine sB ?_ ?_ | refine sC ?_ ?_ | refine sD ?_ ?_ | refine sE ?_ ?_ | refine sF ?_ ?_) <;> intro h
        | refine clK_mk (hbyc) rfl ?_
        | refine clK_mk (hml) rfl ?_
        | simp only [go_sem, *])
end YtihgdplbehempaaGreat
end Go.Vm
end
section
set_option linter.unusedSimpArgs false
set_option maxRecDepth 10000
namespace Go.Vm
open Go Go.Proofs Go.Whole
namespace YtihgdplbehempaaGreat
open Go.Proofs.Tryz
attribute [go_sem] Tryz.results72 Tryz.results150 Tryz.results219 Tryz.results151 Tryz.results221 Tryz.results220 Tryz.results258 Tryz.results152 Tryz.results78 Tryz.results73 Tryz.results65 Tryz.results134 Tryz.results218 Tryz.results257
theorem lcheck1_d (vars : Int) (r : Row) : DCall Tryz.prog 134 [r.tr, .ptr [i64 vars]] (.bool (!rightB vars r)) := by
  refine dcall_mk orders Tryz.func134 rfl (by kernel_rfl) noMu (by kernel_rfl) rfl (fun hs => ?_)
  repeat' (first
    | (with_reducible first | refine sA ?_ ?_ | refine sB ?_ ?_ | refine sC ?_ ?_ | refine sD ?_ ?_ | refine sE ?_ ?_ | refine sF ?_ ?_) <;> intro h
    | refine clK_mk (isRow_d vars r) rfl ?_
    | simp only [go_sem, *])
theorem lcheck_d (vars : Int) (rnn : Bool) (rows : List Row) : DCall Tryz.prog 65 [i64 vars, .sl rnn (rows.map Row.tr)] (i64 (sysErr vars rows)) := by
  have hc := containsRows_d rnn rows 134 [.ptr [i64 vars]] (fun x => !rightB vars x) (fun x _ => lcheck1_d vars x)
  rw [any_not] at hc
  refine dcall_mk orders Tryz.func65 rfl (by kernel_rfl) noMu (by kernel_rfl) rfl (fun hs => ?_)
  repeat' (first
    | (with_reducible first | refine sA ?_ ?_ | refine sB ?_ ?_ | refine sC ?_ ?_ | refine sD ?_ ?_ | refine sE ?_ ?_ | refine sF ?_ ?_) <;> intro h
    | refine clK_mk (hc) rfl ?_
    | simp only [go_sem, *])
  try any_goals (refine congrArg some ?_; first | rfl | (simp only [go_sem, sysErr, *]; done) | (simp only [go_sem, sysErr, *]; rfl) | (simp_all [sysErr]; done))
structure WI where
  nn : Bool
  z : Int
def WI.tr (x : WI) : Tr := encI x.nn x.z
attribute [go_sem] WI.tr
def contraW (l : List WI) (c : WI) : Bool := decide (c.z < 0) && l.all (fun x => decide (x.z = 0))
end YtihgdplbehempaaGreat
end Go.Vm
end
section
set_option linter.unusedSimpArgs false
set_option maxRecDepth 10000
namespace Go.Vm
open Go Go.Proofs Go.Whole
namespace YtihgdplbehempaaGreat
open Go.Proofs.Tryz
attribute [go_sem] Tryz.results159 Tryz.results153
theorem append_rf {P : Program} {mu : Nat → Bool} {h : Hp} {d : Option Tmp} {t e : TypeId} {id : Id} {n : Nat} {nn' : Bool} {cs : List PV} {ag : Bool} {xs : List Tr} {esz : Nat} (hel : elemB P t = some e) (hsz : P.cellsOf e = esz) (hz : (zeroB P e).map List.length = some esz) (h1 : Nat.blt 0 esz = true) (hby : Nat.ble (P.bytesOf e) 128 = true)
    (hx : ∀ x ∈ xs, x.cells.length = esz) (hg : hget h id = some ⟨cs, esz, n, e, ag, true⟩) (hb : n + xs.length ≤ 1099511627776) (hne : xs ≠ []) :
    appendPV P mu d t (.rf id n) (.t (.sl nn' xs)) h = some (.rf id (n + xs.length), hset h id ⟨cs ++ (flat xs).map .t, esz, n + xs.length, e, ag, true⟩) := by
  have hpos : 0 < esz := by simp [Nat.blt] at h1; omega
  have hzz : ∃ z, zeroB P e = some z ∧ z.length = esz := by
    cases hzz : zeroB P e with
    | none => rw [hzz] at hz; cases hz
    | some z => rw [hzz] at hz; exact ⟨z, rfl, by simpa using hz⟩
  obtain ⟨z, hz1, hz2⟩ := hzz
  have hfl := flat_length xs esz hx
  have hm := Nat.mul_le_mul hb (Nat.le_of_ble_eq_true hby)
  have hl0 : xs.length ≠ 0 := fun e => hne (List.eq_nil_of_length_eq_zero e)
  unfold appendPV
  simp only [hel, hz1, srcPV, hfl, hsz, if_true, hz2, true_and, hg]
  rw [if_pos hpos, if_pos ⟨by omega, by omega⟩, if_neg hl0]
theorem cloneRows_i (rnn : Bool) (l : List Row) (h : Hp) (hne : l ≠ []) (hlen : l.length ≤ 1000000) :
    ICall Tryz.prog 159 [.t (.sl true (l.map Row.tr))] h (fun v h' => v = .rf (hnext h 5) l.length ∧ h' = hnew h 5 ⟨(flat (l.map Row.tr)).map .t, 2, l.length, tRow, true, true⟩) := by
  refine icall_mk orders Tryz.func159 rfl (by kernel_rfl) (fun d => d == 5 || d == 7) (by kernel_rfl) rfl (fun hs hlen => ?_)
  clear hs
  repeat' (first
    | (with_reducible first | refine sA ?_ ?_ | refine sB ?_ ?_ | refine sC ?_ ?_ | refine sD ?_ ?_ | refine sE ?_ ?_ | refine sF ?_ ?_) <;> intro h
    | simp only [go_sem, *])
  rw [append_rf (esz := 2) (e := tRow) (ag := true) (by kernel_rfl) (by kernel_rfl) (by kernel_rfl) rfl (by kernel_rfl) (fun x hx => (ok_rows l x hx).2.2) (hget_new _ _) (by simp; omega) (by simpa using hne)]
  simp only [Nat.zero_add, List.length_map, List.nil_append, hset_new]
  repeat' (first
    | (with_reducible first | refine sA ?_ ?_ | refine sB ?_ ?_ | refine sC ?_ ?_ | refine sD ?_ ?_ | refine sE ?_ ?_ | refine sF ?_ ?_) <;> intro h
    | simp only [go_sem, *])
theorem append_rf0 {P : Program} {mu : Nat → Bool} {h : Hp} {d : Option Tmp} {t e : TypeId} {id : Id} {n : Nat} {nn' : Bool} {cs : List PV} {ag : Bool} {esz : Nat} (hel : elemB P t = some e) (hsz : P.cellsOf e = esz) (hz : (zeroB P e).map List.length = some esz) (h1 : Nat.blt 0 esz = true) (hby : Nat.ble (P.bytesOf e) 128 = true)
    (hg : hget h id = some ⟨cs, esz, n, e, ag, true⟩) (hb : n ≤ 1099511627776) :
    appendPV P mu d t (.rf id n) (.t (.sl nn' [])) h = some (.rf id n, h) := by
  have hpos : 0 < esz := by simp [Nat.blt] at h1; omega
  have hzz : ∃ z, zeroB P e = some z ∧ z.length = esz := by
    cases hzz : zeroB P e with
    | none => rw [hzz] at hz; cases hz
    | some z => rw [hzz] at hz; exact ⟨z, rfl, by simpa using hz⟩
  obtain ⟨z, hz1, hz2⟩ := hzz
  have hm := Nat.mul_le_mul hb (Nat.le_of_ble_eq_true hby)
  unfold appendPV
  simp only [hel, hz1, srcPV, flat, List.flatMap_nil, List.length_nil, Nat.zero_mul, hsz, if_true, hz2, true_and, hg]
  rw [if_pos hpos, if_pos ⟨by omega, by omega⟩]
theorem cloneRows_i' (l : List Row) (h : Hp) (hlen : l.length ≤ 1000000) :
    ICall Tryz.prog 159 [.t (.sl true (l.map Row.tr))] h (fun v h' => v = .rf (hnext h 5) l.length ∧ h' = hnew h 5 ⟨(flat (l.map Row.tr)).map .t, 2, l.length, tRow, true, true⟩) := by
  by_cases hne : l = []
  · subst hne
    refine icall_mk orders Tryz.func159 rfl (by kernel_rfl) (fun d => d == 5 || d == 7) (by kernel_rfl) rfl (fun hs hlen => ?_)
    clear hs
    repeat' (first
      | (with_reducible first | refine sA ?_ ?_ | refine sB ?_ ?_ | refine sC ?_ ?_ | refine sD ?_ ?_ | refine sE ?_ ?_ | refine sF ?_ ?_) <;> intro h
      | simp only [go_sem, *])
    rw [append_rf0 (esz := 2) (e := tRow) (ag := true) (by kernel_rfl) (by kernel_rfl) (by kernel_rfl) rfl (by kernel_rfl) (hget_new _ _) (by decide)]
    repeat' (first
      | (with_reducible first | refine sA ?_ ?_ | refine sB ?_ ?_ | refine sC ?_ ?_ | refine sD ?_ ?_ | refine sE ?_ ?_ | refine sF ?_ ?_) <;> intro h
      | simp only [go_sem, *])
    rfl
  · exact cloneRows_i true l h hne hlen
theorem cloneRows_nil (h : Hp) : ICall Tryz.prog 159 [.t (.sl false [])] h (fun v h' => v = .t (.sl false []) ∧ h' = h) := by
  refine icall_mk orders Tryz.func159 rfl (by kernel_rfl) (fun d => d == 5 || d == 7) (by kernel_rfl) rfl (fun hs hlen => ?_)
  clear hs
  repeat' (first
    | (with_reducible first | refine sA ?_ ?_ | refine sB ?_ ?_ | refine sC ?_ ?_ | refine sD ?_ ?_ | refine sE ?_ ?_ | refine sF ?_ ?_) <;> intro h
    | simp only [go_sem, *])
theorem append_nilT {P : Program} {mu : Nat → Bool} {h : Hp} {d : Option Tmp} {t e : TypeId} {nn' : Bool} {xs : List Tr} {esz : Nat} (hel : elemB P t = some e) (hsz : P.cellsOf e = esz) (hz : (zeroB P e).map List.length = some esz) (h1 : Nat.blt 0 esz = true) (hby : Nat.ble (P.bytesOf e) 128 = true)
    (hx : ∀ x ∈ xs, x.cells.length = esz) (hb : xs.length ≤ 1099511627776) (hne : xs ≠ []) :
    appendPV P mu d t (.t (.sl false [])) (.t (.sl nn' xs)) h = newRowPV P mu d e xs.length ((flat xs).map .t) h := by
  have hpos : 0 < esz := by simp [Nat.blt] at h1; omega
  have hzz : ∃ z, zeroB P e = some z ∧ z.length = esz := by
    cases hzz : zeroB P e with
    | none => rw [hzz] at hz; cases hz
    | some z => rw [hzz] at hz; exact ⟨z, rfl, by simpa using hz⟩
  obtain ⟨z, hz1, hz2⟩ := hzz
  have hfl := flat_length xs esz hx
  have hm := Nat.mul_le_mul hb (Nat.le_of_ble_eq_true hby)
  have hl0 : xs.length ≠ 0 := fun e => hne (List.eq_nil_of_length_eq_zero e)
  unfold appendPV
  simp only [hel, hz1, srcPV, hfl, hsz, if_true, hz2, true_and]
  rw [if_pos hpos, if_neg hl0, if_pos ⟨by omega, by omega⟩]
theorem enters' (g : FuncId) (h : (match Tryz.prog.funcs[g]? with | some fn => !(fn.name == "runtime.NumGoroutine") && !fn.body.isNone | none => false) = true) : Enters Tryz.prog g := by
  cases hf : Tryz.prog.funcs[g]? with
  | none => rw [hf] at h; cases h
  | some fn => rw [hf] at h; simp only [Bool.and_eq_true, Bool.not_eq_true'] at h; exact ⟨fn, hf, h.1, h.2⟩
theorem implied_d (vars : Int) (rnn : Bool) (rows : List Row) (row : Row) (hlen : rows.length ≤ 900000) : DCall Tryz.prog 78 [i64 vars, .sl rnn (rows.map Row.tr), row.tr] (i64 (sysErr vars (rows ++ [row]))) := by
  refine dcall_wf (enters' _ (by kernel_rfl)) fun hw => ?_
  have hnil : rnn = false → rows = [] := fun h => by
    subst h
    simp [wfL, Tr.wf] at hw
    exact hw.1.1
  cases rnn with
  | false =>
    have := hnil rfl
    subst this
    have hc := lcheck_d vars true ([] ++ [row])
    simp only [List.nil_append, List.map_cons, List.map_nil] at hc
    clear hw hnil
    refine dcall_mk orders Tryz.func78 rfl (by kernel_rfl) (fun d => d == 9 || d == 13) (by kernel_rfl) rfl (fun hs => ?_)
    clear hs
    repeat' (first
      | (with_reducible first | refine sA ?_ ?_ | refine sB ?_ ?_ | refine sC ?_ ?_ | refine sD ?_ ?_ | refine sE ?_ ?_ | refine sF ?_ ?_) <;> intro h
      | simp only [go_sem, *])
    refine clK_ix (cloneRows_nil _) rfl ?_
    repeat' (first
      | (with_reducible first | refine sA ?_ ?_ | refine sB ?_ ?_ | refine sC ?_ ?_ | refine sD ?_ ?_ | refine sE ?_ ?_ | refine sF ?_ ?_) <;> intro h
      | simp only [go_sem, *])
    rw [append_nilT (esz := 2) (e := tRow) (by kernel_rfl) (by kernel_rfl) (by kernel_rfl) rfl (by kernel_rfl) (fun x hx => by rw [List.mem_singleton.1 hx]; rfl) (by simp) (by simp)]
    simp only [flat_cons, show flat [] = [] from rfl]
    repeat' (first
      | (with_reducible first | refine sA ?_ ?_ | refine sB ?_ ?_ | refine sC ?_ ?_ | refine sD ?_ ?_ | refine sE ?_ ?_ | refine sF ?_ ?_) <;> intro h
      | refine clK_mk (hc) rfl ?_
      | simp only [go_sem, *])
  | true =>
    have hc := lcheck_d vars true (rows ++ [row])
    have hi := cloneRows_i' rows (fun _ => []) (by omega)
    clear hw hnil
    refine dcall_mk orders Tryz.func78 rfl (by kernel_rfl) (fun d => d == 9 || d == 13) (by kernel_rfl) rfl (fun hs => ?_)
    clear hs
    repeat' (first
      | (with_reducible first | refine sA ?_ ?_ | refine sB ?_ ?_ | refine sC ?_ ?_ | refine sD ?_ ?_ | refine sE ?_ ?_ | refine sF ?_ ?_) <;> intro h
      | simp only [go_sem, *])
    refine clK_ix hi rfl ?_
    repeat' (first
      | (with_reducible first | refine sA ?_ ?_ | refine sB ?_ ?_ | refine sC ?_ ?_ | refine sD ?_ ?_ | refine sE ?_ ?_ | refine sF ?_ ?_) <;> intro h
      | simp only [go_sem, *])
    rw [append_rf (esz := 2) (e := tRow) (ag := true) (by kernel_rfl) (by kernel_rfl) (by kernel_rfl) rfl (by kernel_rfl) (fun x hx => by rw [List.mem_singleton.1 hx]; rfl) (hget_new _ _) (by simp; omega) (by simp)]
    have hcells : List.map PV.t (flat (List.map Row.tr rows)) ++ List.map PV.t (flat [Tr.agg [.sl row.nn (List.map (Tr.int .i64) row.coefs), .int .i64 row.const]]) = List.map PV.t (flat ((rows ++ [row]).map Row.tr)) := by
      rw [List.map_append, flat_append, List.map_append]; rfl
    rw [hcells, hset_new]
    have hdep : ∀ n, n = (rows ++ [row]).length → toTr (hnew (fun _ => []) 5 ⟨List.map PV.t (flat ((rows ++ [row]).map Row.tr)), 2, n, tRow, true, true⟩) dep (.rf (hnext (fun _ => []) 5) n) = some (.sl true ((rows ++ [row]).map Row.tr)) := fun n hn => toTr_flat 5 (ok_rows _) (by simp [hn]) (hget_new _ _)
    have hdep2 := hdep (rows.length + 1) (by simp)
    simp only [List.length_cons, List.length_nil]
    repeat' (first
      | (with_reducible first | refine sA ?_ ?_ | refine sB ?_ ?_ | refine sC ?_ ?_ | refine sD ?_ ?_ | refine sE ?_ ?_ | refine sF ?_ ?_) <;> intro h
      | simp only [go_sem, *])
    refine clK_fx hc (by simp only [go_sem, hdep2]) rfl ?_
    repeat' (first
      | (with_reducible first | refine sA ?_ ?_ | refine sB ?_ ?_ | refine sC ?_ ?_ | refine sD ?_ ?_ | refine sE ?_ ?_ | refine sF ?_ ?_) <;> intro h
      | simp only [go_sem, *])
end YtihgdplbehempaaGreat
end Go.Vm
end
section
set_option linter.unusedSimpArgs false
set_option maxRecDepth 10000
namespace Go.Vm
open Go Go.Proofs Go.Whole
namespace YtihgdplbehempaaGreat
open Go.Proofs.Tryz
def addW (out : List WI) (cs : List Int) (m : Nat) : List WI := List.zipWith (fun x c => (⟨true, x.z + m * c⟩ : WI)) out cs
def lsumR : List WI → WI → List Row → List Nat → List WI × WI
  | out, last, r :: rows, m :: ms => if m = 0 then lsumR out last rows ms else lsumR (addW out r.coefs m) ⟨true, last.z + m * r.const⟩ rows ms
  | out, last, _, _ => (out, last)
abbrev zW : WI := ⟨false, 0⟩
def WI.cs (x : WI) : List Tr := intC x.nn x.z
attribute [go_sem] WI.cs
def WI.le (x : WI) (k : Nat) : Prop := x.z.natAbs ≤ k * 19342813113834066795298816
theorem WI.le.fits {x : WI} {k : Nat} (h : x.le k) (hk : k ≤ 100000) : fits x.z := by
  have h2 : B ^ 2 = 18446744073709551616 := by decide
  have h3 : B ^ 4 = 340282366920938463463374607431768211456 := by rw [Nat.pow_succ, Nat.pow_succ, h2, B_eq]
  unfold WI.le at h
  refine Nat.le_trans (digs_length_le (k := 4) ?_) (by decide)
  rw [h3]; omega
end YtihgdplbehempaaGreat
end Go.Vm
end
section
set_option linter.unusedSimpArgs false
set_option maxRecDepth 10000
namespace Go.Vm
open Go Go.Proofs Go.Whole
namespace YtihgdplbehempaaGreat
open Go.Proofs.Tryz
theorem sys_of {vars : Int} {rows : List Row} (h : sysErr vars rows = 0) : ∃ V : Nat, vars = V ∧ Sys V rows := by
  unfold sysErr at h
  split at h
  · cases h
  · rename_i h1
    split at h
    · cases h
    · rename_i h2
      split at h
      · rename_i h3
        simp at h1 h2
        refine ⟨vars.toNat, by omega, by omega, by omega, fun r hr => ?_⟩
        have := List.all_eq_true.1 h3 r hr
        simp [rightB, List.all_eq_true] at this
        obtain ⟨e, h4, h5⟩ := this
        exact ⟨by omega, h4, fun c hc => h5 c hc⟩
      · cases h
def okMults (rows : List Row) (ms : List Nat) : Bool := decide (ms.length = rows.length) && ms.all (fun m => decide (m ≤ 4611686018427387904))
theorem okMults_of {rows : List Row} {ms : List Nat} (h : okMults rows ms = true) : ms.length = rows.length ∧ ∀ m ∈ ms, m < 18446744073709551616 := by
  simp [okMults, List.all_eq_true] at h
  exact ⟨h.1, fun m hm => by have := h.2 m hm; omega⟩
def eqW : List WI → List Int → Nat → Bool
  | x :: out, a :: l, b => decide (x.z = b * a) && eqW out l b
  | _, _, _ => true
def lprovW (q : List WI × WI) (row : Row) (sc : Nat) : Bool := if sc = 0 then contraW q.1 q.2 else eqW q.1 row.coefs sc && decide (q.2.z ≤ sc * row.const)
def okCert (rows : List Row) (f : Cert) : Bool := okMults rows f.ms && decide (f.scale ≤ 4611686018427387904)
theorem Sys.left {V : Nat} {rows : List Row} {row : Row} (h : Sys V (rows ++ [row])) : Sys V rows ∧ row.coefs.length = V ∧ smallB row.const = true ∧ ∀ c ∈ row.coefs, smallB c = true :=
  ⟨⟨h.v, by have := h.n; simp at this; omega, fun r hr => h.r r (by simp [hr])⟩, h.r row (by simp)⟩
end YtihgdplbehempaaGreat
end Go.Vm
end
section
set_option linter.unusedSimpArgs false
set_option maxRecDepth 10000
namespace Go.Vm
open Go Go.Proofs Go.Whole
namespace YtihgdplbehempaaGreat
open Go.Proofs.Tryz
theorem lsumR_len {V : Nat} : ∀ (rows : List Row) (ms : List Nat) (out : List WI) (last : WI), out.length = V → (∀ r ∈ rows, r.coefs.length = V) → (lsumR out last rows ms).1.length = V
  | [], ms, out, last, h, _ => by cases ms <;> exact h
  | r :: rows, [], out, last, h, _ => h
  | r :: rows, m :: ms, out, last, h, hr => by
    simp only [lsumR]
    split
    · exact lsumR_len rows ms _ _ h (fun x hx => hr x (by simp [hx]))
    · exact lsumR_len rows ms _ _ (by unfold addW; rw [List.length_zipWith, h, hr r (by simp), Nat.min_self]) (fun x hx => hr x (by simp [hx]))
theorem WI.le.mono {x : WI} {k j : Nat} (h : x.le k) (hj : k ≤ j) : x.le j := Nat.le_trans h (Nat.mul_le_mul_right _ hj)
end YtihgdplbehempaaGreat
end Go.Vm
end
section
set_option linter.unusedSimpArgs false
set_option maxRecDepth 10000
namespace Go.Vm
open Go Go.Proofs Go.Whole
namespace YtihgdplbehempaaGreat
open Go.Proofs.Tryz
attribute [go_sem] Tryz.results27
def RInt.v (x : RInt) : Int := (x.p : Int) - x.n
theorem addRow_v : ∀ (out : List RInt) (cs : List Int) (m : Nat), (addRow out cs m).map RInt.v = List.zipWith (fun (v c : Int) => v + m * c) (out.map RInt.v) cs
  | [], _, _ => by simp [addRow]
  | x :: out, [], _ => by simp [addRow]
  | x :: out, c :: cs, m => by
    have ih := addRow_v out cs m
    simp only [addRow] at ih
    simp only [addRow, List.zipWith_cons_cons, List.map_cons, ih]
    congr 1
    have := withR_v x c m
    simp only [RInt.v]
    rw [this, Int.mul_comm]
theorem addW_v : ∀ (out : List WI) (cs : List Int) (m : Nat), (addW out cs m).map WI.z = List.zipWith (fun (v c : Int) => v + m * c) (out.map WI.z) cs
  | [], _, _ => by simp [addW]
  | x :: out, [], _ => by simp [addW]
  | x :: out, c :: cs, m => by
    have ih := addW_v out cs m
    simp only [addW] at ih
    simp only [addW, List.zipWith_cons_cons, List.map_cons, ih]
theorem zipWith_zero : ∀ (l cs : List Int), l.length ≤ cs.length → List.zipWith (fun (v c : Int) => v + ((0 : Nat) : Int) * c) l cs = l
  | [], _, _ => by simp
  | x :: l, [], h => by simp at h
  | x :: l, c :: cs, h => by
    simp only [List.length_cons, Nat.add_le_add_iff_right] at h
    rw [List.zipWith_cons_cons, zipWith_zero l cs h]
    simp
theorem sums_same (V : Nat) : ∀ (rows : List Row) (ms : List Nat) (out : List RInt) (last : RInt) (outW : List WI) (lastW : WI), out.length = V → (∀ r ∈ rows, r.coefs.length = V) → out.map RInt.v = outW.map WI.z → last.v = lastW.z →
    (sumR out last rows ms).1.map RInt.v = (lsumR outW lastW rows ms).1.map WI.z ∧ (sumR out last rows ms).2.v = (lsumR outW lastW rows ms).2.z
  | [], ms, out, last, outW, lastW, _, _, h1, h2 => by simp [sumR, lsumR, h1, h2]
  | r :: rows, [], out, last, outW, lastW, _, _, h1, h2 => by simp [sumR, lsumR, h1, h2]
  | r :: rows, m :: ms, out, last, outW, lastW, hl, hr, h1, h2 => by
    have hrl := hr r (by simp)
    have hlast : (withR last r.const m).v = last.v + m * r.const := by
      have := withR_v last r.const m
      simp only [RInt.v]
      rw [this, Int.mul_comm]
    simp only [sumR, lsumR]
    have hl' : (addRow out r.coefs m).length = V := by simp [addRow, hl, hrl]
    by_cases hm : m = 0
    · rw [if_pos hm]
      subst hm
      refine sums_same V rows ms _ _ outW lastW hl' (fun x hx => hr x (by simp [hx])) ?_ ?_
      · rw [addRow_v, zipWith_zero _ _ (by simp [hl, hrl]), h1]
      · rw [hlast, ← h2]; simp
    · rw [if_neg hm]
      refine sums_same V rows ms _ _ _ _ hl' (fun x hx => hr x (by simp [hx])) ?_ ?_
      · rw [addRow_v, addW_v, h1]
      · rw [hlast, h2]
theorem all_v (l : List RInt) : l.all (fun x => decide (x.p = x.n)) = (l.map RInt.v).all (fun z => decide (z = 0)) := by
  rw [List.all_map]
  congr 1
  funext x
  simp only [Function.comp, RInt.v]
  exact decide_eq_decide.2 (by omega)
theorem all_z (l : List WI) : l.all (fun x => decide (x.z = 0)) = (l.map WI.z).all (fun z => decide (z = 0)) := by
  rw [List.all_map]; rfl
theorem contra_same {q : List RInt × RInt} {w : List WI × WI} (h1 : q.1.map RInt.v = w.1.map WI.z) (h2 : q.2.v = w.2.z) : refutesR q = contraW w.1 w.2 := by
  unfold refutesR contraW
  rw [all_v, all_z, h1, Bool.and_comm]
  congr 1
  refine decide_eq_decide.2 ?_
  rw [← h2]
  simp only [RInt.v]; omega
theorem most_v (x y : RInt) : mostR x y = decide (x.v ≤ y.v) := by
  simp only [mostR, RInt.v, ← decide_not]
  exact decide_eq_decide.2 (by omega)
theorem zR_withR (a : Int) (b : Nat) : (withR zR a b).v = b * a := by
  have := withR_v zR a b
  simp only [RInt.v]
  rw [this, Int.mul_comm]; simp
theorem eq_same : ∀ (out : List RInt) (outW : List WI) (l : List Int) (b : Nat), out.map RInt.v = outW.map WI.z → eqGo out l b = eqW outW l b
  | [], [], _, _, _ => by simp [eqGo, eqW]
  | [], w :: outW, _, _, h => by simp at h
  | x :: out, [], _, _, h => by simp at h
  | x :: out, w :: outW, [], _, _ => by simp [eqGo, eqW]
  | x :: out, w :: outW, a :: l, b, h => by
    simp only [List.map_cons, List.cons.injEq] at h
    simp only [eqGo, eqW, eq_same out outW l b h.2, most_v, zR_withR, h.1]
    congr 1
    rw [← Bool.decide_and]
    exact decide_eq_decide.2 (by omega)
theorem proves_same {q : List RInt × RInt} {w : List WI × WI} (row : Row) (sc : Nat) (h1 : q.1.map RInt.v = w.1.map WI.z) (h2 : q.2.v = w.2.z) : provesR q row sc = lprovW w row sc := by
  unfold provesR lprovW
  split
  · exact contra_same h1 h2
  · rw [eq_same _ _ _ _ h1, most_v, zR_withR, h2]
theorem sums_start (V : Nat) (rows : List Row) (ms : List Nat) (hr : ∀ r ∈ rows, r.coefs.length = V) :
    (sumR (List.replicate V zR) zR rows ms).1.map RInt.v = (lsumR (List.replicate V zW) ⟨true, 0⟩ rows ms).1.map WI.z ∧ (sumR (List.replicate V zR) zR rows ms).2.v = (lsumR (List.replicate V zW) ⟨true, 0⟩ rows ms).2.z :=
  sums_same V rows ms _ _ _ _ (by simp) hr (by rw [List.map_replicate, List.map_replicate]; rfl) rfl
end YtihgdplbehempaaGreat
end Go.Vm
end
section
namespace Go.Simplex
structure Tab where
  rows : List (List Rat)
  cost : List Rat
  basis : List Nat
  cols : Nat
  deriving DecidableEq
def Tab.row (T : Tab) (i : Nat) : List Rat := T.rows.getD i []
structure Tab.Ok (T : Tab) (n W : Nat) : Prop where
  rn : T.rows.length = n
  bn : T.basis.length = n
  cw : T.cost.length = W
  rw' : ∀ r ∈ T.rows, r.length = W
  wide : W = T.cols + n + 1
def toS (T : Tab) : S := ⟨fun i j => (T.row i).getD j 0, fun j => T.cost.getD j 0, fun i => T.basis.getD i 0⟩
def lessL (row pivot : List Rat) (col : Nat) : List Rat := List.zipWith (fun x p => x - row.getD col 0 * p) row pivot
def pivotL (T : Tab) (at_ col : Nat) : Tab :=
  let row := (T.row at_).map (· * ((T.row at_).getD col 0)⁻¹)
  ⟨T.rows.mapIdx (fun i r => if i = at_ then row else lessL r row col), lessL T.cost row col, T.basis.set at_ col, T.cols⟩
def enterL (T : Tab) : Option Nat := (List.range T.cols).find? fun j => decide (T.cost.getD j 0 < 0)
def better (T : Tab) (acc : Option (Nat × Rat)) (i : Nat) (q : Rat) : Bool := match acc with
  | none => true
  | some (b, l) => decide (q < l) || (decide (q = l) && decide (T.basis.getD i 0 ≤ T.basis.getD b 0))
def leaveL (T : Tab) (col : Nat) : List (List Rat) → Nat → Option (Nat × Rat) → Option (Nat × Rat)
  | [], _, acc => acc
  | r :: l, i, acc => leaveL T col l (i + 1) (if 0 < r.getD col 0 ∧ better T acc i (r.getD (r.length - 1) 0 * (r.getD col 0)⁻¹) = true then some (i, r.getD (r.length - 1) 0 * (r.getD col 0)⁻¹) else acc)
def stepL (T : Tab) : Option Tab := match enterL T with
  | none => none
  | some col => match leaveL T col T.rows 0 none with
    | none => none
    | some (at_, _) => some (pivotL T at_ col)
def runL : Nat → Tab → Option Tab
  | 0, _ => none
  | k + 1, T => match enterL T with
    | none => some T
    | some _ => match stepL T with
      | none => none
      | some T' => runL k T'
theorem getD_zipWith {f : Rat → Rat → Rat} (hf : f 0 0 = 0) {a b : List Rat} (hl : a.length = b.length) (j : Nat) : (List.zipWith f a b).getD j 0 = f (a.getD j 0) (b.getD j 0) := by
  simp only [List.getD, List.getElem?_zipWith]
  by_cases hj : j < a.length
  · have hjb : j < b.length := by omega
    simp [hj, hjb]
  · have hjb : ¬ j < b.length := by omega
    simp [hj, hjb, hf]
theorem getD_map {f : Rat → Rat} (hf : f 0 = 0) (a : List Rat) (j : Nat) : (a.map f).getD j 0 = f (a.getD j 0) := by
  simp only [List.getD, List.getElem?_map]
  cases a[j]? <;> simp [hf]
variable {T : Tab} {n W : Nat}
theorem Tab.Ok.row_len (h : T.Ok n W) {i : Nat} (hi : i < n) : (T.row i).length = W := by
  have hi' : i < T.rows.length := by rw [h.rn]; exact hi
  unfold Tab.row
  rw [List.getD_eq_getElem?_getD, List.getElem?_eq_getElem hi']
  exact h.rw' _ (List.getElem_mem hi')
theorem pivot_ok (h : T.Ok n W) {p q : Nat} (hp : p < n) : (pivotL T p q).Ok n W := by
  have hrow : ((T.row p).map (· * ((T.row p).getD q 0)⁻¹)).length = W := by rw [List.length_map, h.row_len hp]
  refine ⟨by simp [pivotL, h.rn], by simp [pivotL, h.bn], by simp [pivotL, lessL, h.cw, h.row_len hp], fun r hr => ?_, h.wide⟩
  simp only [pivotL, List.mem_mapIdx] at hr
  obtain ⟨i, hi, rfl⟩ := hr
  split
  · exact hrow
  · simp [lessL, h.rw' _ (List.getElem_mem hi), h.row_len hp]
theorem pivot_toS (h : T.Ok n W) {p q : Nat} (hp : p < n) : toS (pivotL T p q) = piv (toS T) p q := by
  have hrow : ∀ j, ((T.row p).map (· * ((T.row p).getD q 0)⁻¹)).getD j 0 = (T.row p).getD j 0 * ((T.row p).getD q 0)⁻¹ := fun j => getD_map (by grind) _ j
  have e1 : ∀ i j, ((pivotL T p q).row i).getD j 0 = (piv (toS T) p q).r i j := by
    intro i j
    simp only [piv, toS]
    by_cases hi : i < T.rows.length
    · have : (pivotL T p q).row i = if i = p then (T.row p).map (· * ((T.row p).getD q 0)⁻¹) else lessL (T.row i) ((T.row p).map (· * ((T.row p).getD q 0)⁻¹)) q := by
        simp [pivotL, Tab.row, List.getD, hi]
      rw [this]
      by_cases e : i = p
      · rw [if_pos e, if_pos e, hrow]
      · rw [if_neg e, if_neg e]
        unfold lessL
        rw [getD_zipWith (by grind) (by rw [List.length_map, h.row_len hp, h.row_len (by rw [← h.rn]; exact hi)]), hrow]
    · have e0 : T.row i = [] := by simp [Tab.row, List.getD, hi]
      have e1 : (pivotL T p q).row i = [] := by simp [pivotL, Tab.row, List.getD, hi]
      have : i ≠ p := fun e => hi (by rw [e, h.rn]; exact hp)
      rw [e1, if_neg this, e0]
      simp
      grind
  have e2 : ∀ j, (pivotL T p q).cost.getD j 0 = (piv (toS T) p q).c j := by
    intro j
    simp only [piv, toS, pivotL]
    unfold lessL
    rw [getD_zipWith (by grind) (by rw [List.length_map, h.row_len hp, h.cw]), hrow]
  have e3 : ∀ i, (pivotL T p q).basis.getD i 0 = (piv (toS T) p q).b i := by
    intro i
    simp only [piv, toS, pivotL, List.getD, List.getElem?_set]
    by_cases e : i = p
    · subst e; rw [if_pos rfl, if_pos rfl, if_pos (by rw [h.bn]; exact hp)]; rfl
    · rw [if_neg e, if_neg (fun h => e h.symm)]
  have : ∀ a b : S, a.r = b.r → a.c = b.c → a.b = b.b → a = b := fun a b h1 h2 h3 => by cases a; cases b; simp_all
  exact this _ _ (funext fun i => funext fun j => e1 i j) (funext e2) (funext e3)
theorem enterL_some {q : Nat} (h : enterL T = some q) : Enter T.cols (toS T) q := by
  unfold enterL at h
  obtain ⟨h1, h2, h3⟩ := List.find?_range_eq_some.1 h
  refine ⟨by simpa using h2, by simpa [toS] using h1, fun j hj => ?_⟩
  have := h3 j hj
  simp at this
  exact Rat.not_lt.1 (by simpa [toS] using this)
theorem enterL_none (h : enterL T = none) : ∀ j, j < T.cols → 0 ≤ (toS T).c j := by
  intro j hj
  unfold enterL at h
  have := List.find?_range_eq_none.1 h j hj
  simp at this
  exact Rat.not_lt.1 (by simpa [toS] using this)
def Best (T : Tab) (col : Nat) (k : Nat) (acc : Option (Nat × Rat)) : Prop := match acc with
  | none => ∀ i, i < k → ¬ 0 < (toS T).r i col
  | some (b, l) => b < k ∧ 0 < (toS T).r b col ∧ l = (toS T).r b (T.cols + T.rows.length) * ((toS T).r b col)⁻¹ ∧
    ∀ i, i < k → 0 < (toS T).r i col → l < (toS T).r i (T.cols + T.rows.length) * ((toS T).r i col)⁻¹ ∨ (l = (toS T).r i (T.cols + T.rows.length) * ((toS T).r i col)⁻¹ ∧ (toS T).b b ≤ (toS T).b i)
theorem leaveL_best (h : T.Ok n W) (col : Nat) : ∀ (l : List (List Rat)) (k : Nat) (acc : Option (Nat × Rat)), l = T.rows.drop k → Best T col k acc → Best T col T.rows.length (leaveL T col l k acc) ∨ T.rows.length < k
  | [], k, acc, hl, hb => by
    by_cases hk : T.rows.length < k
    · exact .inr hk
    · left
      have : T.rows.length ≤ k := by
        have := congrArg List.length hl
        simp at this; omega
      have : k = T.rows.length := by omega
      subst this
      exact hb
  | r :: l, k, acc, hl, hb => by
    have hk : k < T.rows.length := by
      have := congrArg List.length hl
      simp at this; omega
    have hl' : l = T.rows.drop (k + 1) := by
      have := congrArg List.tail hl
      simpa using this
    have hr : r = T.row k := by
      have := congrArg (fun x => x[0]?) hl
      simp at this
      simp [Tab.row, List.getD, ← this]
    have hlen : r.length - 1 = T.cols + T.rows.length := by
      rw [hr, h.row_len (by rw [← h.rn]; exact hk), h.wide, h.rn]; omega
    have hrk : ∀ j, r.getD j 0 = (toS T).r k j := fun j => by rw [hr]; rfl
    simp only [leaveL]
    have key : Best T col (k + 1) (if 0 < r.getD col 0 ∧ better T acc k (r.getD (r.length - 1) 0 * (r.getD col 0)⁻¹) = true then some (k, r.getD (r.length - 1) 0 * (r.getD col 0)⁻¹) else acc) := by
      simp only [hlen, hrk]
      by_cases hp : 0 < (toS T).r k col
      · cases acc with
        | none =>
          rw [if_pos ⟨hp, rfl⟩]
          refine ⟨by omega, hp, rfl, fun i hi hpos => ?_⟩
          by_cases e : i = k
          · subst e; exact .inr ⟨rfl, Nat.le_refl _⟩
          · exact absurd hpos (hb i (by omega))
        | some bl =>
          obtain ⟨b, lst⟩ := bl
          obtain ⟨b1, b2, b3, b4⟩ := hb
          by_cases hbt : better T (some (b, lst)) k ((toS T).r k (T.cols + T.rows.length) * ((toS T).r k col)⁻¹) = true
          · rw [if_pos ⟨hp, hbt⟩]
            simp only [better, Bool.or_eq_true, Bool.and_eq_true, decide_eq_true_eq] at hbt
            refine ⟨by omega, hp, rfl, fun i hi hpos => ?_⟩
            by_cases e : i = k
            · subst e; exact .inr ⟨rfl, Nat.le_refl _⟩
            · rcases b4 i (by omega) hpos with h4 | ⟨h4, h5⟩
              · left
                rcases hbt with h6 | ⟨h6, _⟩
                · grind
                · rw [h6]; exact h4
              · rcases hbt with h6 | ⟨h6, h7⟩
                · left; rw [← h4]; exact h6
                · right; exact ⟨by rw [h6, h4], Nat.le_trans h7 h5⟩
          · rw [if_neg (fun hh => hbt hh.2)]
            refine ⟨by omega, b2, b3, fun i hi hpos => ?_⟩
            by_cases e : i = k
            · subst e
              simp only [better, Bool.or_eq_true, Bool.and_eq_true, decide_eq_true_eq, not_or, not_and] at hbt
              obtain ⟨h6, h7⟩ := hbt
              rcases Rat.le_iff_lt_or_eq.1 (Rat.not_lt.1 h6) with h8 | h8
              · exact .inl h8
              · refine .inr ⟨h8, ?_⟩
                have := h7 h8.symm
                simp only [toS]; omega
            · exact b4 i (by omega) hpos
      · rw [if_neg (fun hh => hp hh.1)]
        cases acc with
        | none =>
          intro i hi
          by_cases e : i = k
          · subst e; exact hp
          · exact hb i (by omega)
        | some bl =>
          obtain ⟨b, lst⟩ := bl
          obtain ⟨b1, b2, b3, b4⟩ := hb
          refine ⟨by omega, b2, b3, fun i hi hpos => ?_⟩
          by_cases e : i = k
          · subst e; exact absurd hpos hp
          · exact b4 i (by omega) hpos
    rcases leaveL_best h col l (k + 1) _ hl' key with h1 | h1
    · exact .inl h1
    · omega
theorem leaveL_some (h : T.Ok n W) {col p : Nat} {q : Rat} (hl : leaveL T col T.rows 0 none = some (p, q)) : Leave n T.cols (toS T) col p := by
  rcases leaveL_best h col T.rows 0 none (by simp) (fun i hi => by omega) with h1 | h1
  · rw [hl] at h1
    obtain ⟨b1, b2, b3, b4⟩ := h1
    rw [h.rn] at b1 b3 b4
    refine ⟨b1, b2, fun i hi hpos => ?_⟩
    rw [← b3]; exact b4 i hi hpos
  · omega
theorem leaveL_none (h : T.Ok n W) {col : Nat} (hl : leaveL T col T.rows 0 none = none) : ∀ i, i < n → ¬ 0 < (toS T).r i col := by
  rcases leaveL_best h col T.rows 0 none (by simp) (fun i hi => by omega) with h1 | h1
  · rw [hl] at h1
    rw [h.rn] at h1
    exact h1
  · omega
variable {A : Nat → Nat → Rat}
theorem step_some (h : T.Ok n W) (hi : Inv n T.cols A (toS T)) {q : Nat} (he : enterL T = some q) : ∃ p, stepL T = some (pivotL T p q) ∧ Leave n T.cols (toS T) q p ∧ Inv n T.cols A (toS (pivotL T p q)) := by
  have hE := enterL_some he
  cases hl : leaveL T q T.rows 0 none with
  | none =>
    obtain ⟨i, hin, hp⟩ := hi.row hE.1 hE.2.1
    exact absurd hp (leaveL_none h hl i hin)
  | some pq =>
    obtain ⟨p, x⟩ := pq
    have hL := leaveL_some h hl
    refine ⟨p, by simp [stepL, he, hl], hL, ?_⟩
    rw [pivot_toS h hL.1]
    exact hi.piv hL.1 hE.1 hL.2.1 hL.ratio
def nth (T : Tab) : Nat → Tab
  | 0 => T
  | k + 1 => match stepL (nth T k) with | some T' => T' | none => nth T k
theorem nth_cols (T : Tab) : ∀ k, (nth T k).cols = T.cols
  | 0 => rfl
  | k + 1 => by
    simp only [nth]
    split
    · rename_i T' hT
      unfold stepL at hT
      split at hT <;> try (simp at hT; done)
      split at hT <;> simp at hT
      rw [← hT]; exact nth_cols T k
    · exact nth_cols T k
theorem runL_nth : ∀ (m : Nat) (T : Tab), (∀ k, k < m → ∃ q T', enterL (nth T k) = some q ∧ stepL (nth T k) = some T') → enterL (nth T m) = none → runL (m + 1) T = some (nth T m)
  | 0, T, _, he => by
    have he : enterL T = none := he
    simp [runL, he, nth]
  | m + 1, T, hs, he => by
    obtain ⟨q, T', h1, h2⟩ := hs 0 (by omega)
    have h1 : enterL T = some q := h1
    have h2 : stepL T = some T' := h2
    have hn : ∀ k, nth T (k + 1) = nth T' k := by
      intro k
      induction k with
      | zero => simp [nth, h2]
      | succ k ih => simp only [nth] at ih ⊢; rw [ih]
    have := runL_nth m T' (fun k hk => by have := hs (k + 1) (by omega); rw [hn] at this; exact this) (by rw [← hn]; exact he)
    rw [hn]
    simp only [runL] at this ⊢
    rw [h1, h2]
    exact this
theorem runL_ends (h : T.Ok n W) (hi : Inv n T.cols A (toS T)) (R : S → Prop) (h0 : R (toS T)) (hR : ∀ s p q, Inv n T.cols A s → Enter T.cols s q → Leave n T.cols s q p → R s → R (piv s p q)) :
    ∃ m T', runL (m + 1) T = some T' ∧ T'.Ok n W ∧ T'.cols = T.cols ∧ Inv n T.cols A (toS T') ∧ enterL T' = none ∧ R (toS T') := by
  have hstep : ∀ k, (∀ i, i < k → enterL (nth T i) ≠ none) → (nth T k).Ok n W ∧ Inv n T.cols A (toS (nth T k)) ∧ R (toS (nth T k)) := by
    intro k
    induction k with
    | zero => intro _; exact ⟨h, hi, h0⟩
    | succ k ih =>
      intro hk
      obtain ⟨h1, h2, h2R⟩ := ih (fun i hi => hk i (by omega))
      cases he : enterL (nth T k) with
      | none => exact absurd he (hk k (by omega))
      | some q =>
        obtain ⟨p, h3, h4, h5⟩ := step_some h1 (by rw [nth_cols]; exact h2) he
        have hE := enterL_some he
        rw [nth_cols] at h5 h4 hE
        simp only [nth, h3]
        exact ⟨pivot_ok h1 h4.1, h5, by rw [pivot_toS h1 h4.1]; exact hR _ _ _ h2 hE h4 h2R⟩
  by_cases hx : ∃ m, enterL (nth T m) = none
  · -- the first one
    have hmin : ∃ m, enterL (nth T m) = none ∧ ∀ i, i < m → enterL (nth T i) ≠ none := by
      obtain ⟨m, hm⟩ := hx
      induction m using Nat.strongRecOn with
      | ind m ih =>
        by_cases hy : ∃ i, i < m ∧ enterL (nth T i) = none
        · obtain ⟨i, hi1, hi2⟩ := hy; exact ih i hi1 hi2
        · exact ⟨m, hm, fun i hi e => hy ⟨i, hi, e⟩⟩
    obtain ⟨m, hm, hmin⟩ := hmin
    obtain ⟨h1, h2, h2R⟩ := hstep m hmin
    refine ⟨m, nth T m, runL_nth m T (fun k hk => ?_) hm, h1, nth_cols T m, h2, hm, h2R⟩
    cases he : enterL (nth T k) with
    | none => exact absurd he (hmin k hk)
    | some q =>
      obtain ⟨h3, h4, _⟩ := hstep k (fun i hi => hmin i (by omega))
      obtain ⟨p, h5, _⟩ := step_some h3 (by rw [nth_cols]; exact h4) he
      exact ⟨q, _, rfl, h5⟩
  · exfalso
    have hne : ∀ k, enterL (nth T k) ≠ none := fun k e => hx ⟨k, e⟩
    have hall := fun k => hstep k (fun i _ => hne i)
    have hch : ∀ k, ∃ qp : Nat × Nat, enterL (nth T k) = some qp.1 ∧ Leave n T.cols (toS (nth T k)) qp.1 qp.2 ∧ nth T (k + 1) = pivotL (nth T k) qp.2 qp.1 := by
      intro k
      cases he : enterL (nth T k) with
      | none => exact absurd he (hne k)
      | some q =>
        obtain ⟨p, h3, h4, _⟩ := step_some (hall k).1 (by rw [nth_cols]; exact (hall k).2.1) he
        rw [nth_cols] at h4
        exact ⟨(q, p), rfl, h4, by simp [nth, h3]⟩
    obtain ⟨f, hf⟩ := Classical.axiomOfChoice hch
    have R : Run n T.cols ((T.cols + n) ^ n) A (fun k => toS (nth T k)) (fun k => (f k).1) (fun k => (f k).2) :=
      ⟨hi, fun k _ => by have := enterL_some (hf k).1; rw [nth_cols] at this; exact this, fun k _ => (hf k).2.1, fun k _ => by
        show toS (nth T (k + 1)) = _
        rw [(hf k).2.2, pivot_toS (hall k).1 (hf k).2.1.1]⟩
    have := R.short
    omega
end Go.Simplex
end
section
namespace Go.Simplex
def flipB (b : Rat) : Bool := decide (b < 0)
def flipR (f : Bool) (x : Rat) : Rat := if f then -x else x
def entry (cols W i : Nat) (r : List Rat) (b : Rat) (j : Nat) : Rat :=
  if j = cols + i then 1 else flipR (flipB b) (if j < cols then r.getD j 0 else if j = W - 1 then b else 0)
def rowL (cols W i : Nat) (r : List Rat) (b : Rat) : List Rat := (List.range W).map (entry cols W i r b)
def counts (cols W j : Nat) : Bool := decide (j < cols) || decide (j = W - 1)
def rowsL (cols W : Nat) : List (List Rat) → List Rat → Nat → List (List Rat)
  | [], _, _ => []
  | r :: m, rhs, i => rowL cols W i r (rhs.headD 0) :: rowsL cols W m rhs.tail (i + 1)
def costStep (cols W : Nat) (cost row : List Rat) : List Rat := (List.range W).map fun j => if counts cols W j then cost.getD j 0 - row.getD j 0 else cost.getD j 0
def costL (cols W : Nat) : List (List Rat) → List Rat → List Rat
  | [], c => c
  | r :: l, c => costL cols W l (costStep cols W c r)
def beginL (m : List (List Rat)) (rhs : List Rat) : Tab :=
  let cols := (m.headD []).length
  let W := cols + m.length + 1
  ⟨rowsL cols W m rhs 0, costL cols W (rowsL cols W m rhs 0) (List.replicate W 0), (List.range m.length).map (cols + ·), cols⟩
theorem getD_range {W : Nat} (f : Nat → Rat) (j : Nat) : ((List.range W).map f).getD j 0 = if j < W then f j else 0 := by
  simp only [List.getD, List.getElem?_map]
  by_cases h : j < W
  · rw [if_pos h, List.getElem?_range h]; rfl
  · rw [if_neg h, List.getElem?_eq_none (by simp; omega)]; rfl
theorem rowsL_get {cols W : Nat} : ∀ (m : List (List Rat)) (rhs : List Rat) (i k : Nat), k < m.length → (rowsL cols W m rhs i).getD k [] = rowL cols W (i + k) (m.getD k []) (rhs.getD k 0)
  | [], _, _, k, h => by simp at h
  | r :: m, rhs, i, 0, _ => by cases rhs <;> simp [rowsL]
  | r :: m, rhs, i, k + 1, h => by
    have := rowsL_get (cols := cols) (W := W) m rhs.tail (i + 1) k (by simpa using h)
    simp only [rowsL, List.getD_cons_succ, this]
    rw [show i + 1 + k = i + (k + 1) by omega]
    congr 1
    cases rhs <;> simp
theorem rowsL_len {cols W : Nat} : ∀ (m : List (List Rat)) (rhs : List Rat) (i : Nat), (rowsL cols W m rhs i).length = m.length ∧ ∀ r ∈ rowsL cols W m rhs i, r.length = W
  | [], _, _ => by simp [rowsL]
  | r :: m, rhs, i => by
    obtain ⟨h1, h2⟩ := rowsL_len (cols := cols) (W := W) m rhs.tail (i + 1)
    simp only [rowsL, List.length_cons, h1, List.mem_cons]
    refine ⟨trivial, fun x hx => hx.elim (fun e => by rw [e]; simp [rowL]) (h2 x)⟩
theorem costL_len {cols W : Nat} : ∀ (l : List (List Rat)) (c : List Rat), c.length = W → (costL cols W l c).length = W
  | [], c, h => h
  | r :: l, c, _ => costL_len l _ (by simp [costStep])
theorem costL_get {cols W : Nat} : ∀ (l : List (List Rat)) (c : List Rat) (j : Nat), j < W → c.length = W → (costL cols W l c).getD j 0 = c.getD j 0 - if counts cols W j then sumN l.length (fun i => (l.getD i []).getD j 0) else 0
  | [], c, j, _, _ => by simp only [costL, List.length_nil, sumN]; split <;> grind
  | r :: l, c, j, hj, hc => by
    have hlen : (costStep cols W c r).length = W := by simp [costStep]
    rw [costL, costL_get l _ j hj hlen]
    have h1 : (costStep cols W c r).getD j 0 = if counts cols W j then c.getD j 0 - r.getD j 0 else c.getD j 0 := by
      unfold costStep; rw [getD_range, if_pos hj]
    rw [h1]
    have hs : ∀ (m : Nat) (f : Nat → Rat), sumN (m + 1) f = f 0 + sumN m (fun i => f (i + 1)) := by
      intro m f
      induction m with
      | zero => simp only [sumN]; grind
      | succ m ih =>
        have : sumN (m + 1 + 1) f = sumN (m + 1) f + f (m + 1) := rfl
        rw [this, ih]
        simp only [sumN]; grind
    have h2 : sumN (r :: l).length (fun i => ((r :: l).getD i []).getD j 0) = r.getD j 0 + sumN l.length (fun i => (l.getD i []).getD j 0) := by
      rw [List.length_cons, hs]
      simp only [List.getD_cons_zero, List.getD_cons_succ]
    rw [h2]
    split <;> grind
variable {m : List (List Rat)} {rhs : List Rat}
theorem begin_ok : (beginL m rhs).Ok m.length ((m.headD []).length + m.length + 1) :=
  ⟨(rowsL_len m rhs 0).1, by simp [beginL], costL_len _ _ (by simp), (rowsL_len m rhs 0).2, rfl⟩
def A0 (m : List (List Rat)) (rhs : List Rat) (k j : Nat) : Rat := (toS (beginL m rhs)).r k j
theorem A0_eq {k : Nat} (hk : k < m.length) {j : Nat} (hj : j ≤ (m.headD []).length + m.length) :
    A0 m rhs k j = entry (m.headD []).length ((m.headD []).length + m.length + 1) k (m.getD k []) (rhs.getD k 0) j := by
  have : (beginL m rhs).row k = rowL (m.headD []).length ((m.headD []).length + m.length + 1) k (m.getD k []) (rhs.getD k 0) := by
    have := rowsL_get (cols := (m.headD []).length) (W := (m.headD []).length + m.length + 1) m rhs 0 k hk
    simpa [Tab.row, beginL] using this
  unfold A0
  simp only [toS]
  rw [this]
  unfold rowL
  rw [getD_range, if_pos (by omega)]
theorem A0_art {k : Nat} (hk : k < m.length) {l : Nat} (hl : l < m.length) : A0 m rhs k ((m.headD []).length + l) = if k = l then 1 else 0 := by
  rw [A0_eq hk (by omega)]
  unfold entry
  by_cases e : k = l
  · rw [if_pos (by omega), if_pos e]
  · rw [if_neg (by omega), if_neg e, if_neg (by omega), if_neg (by omega)]
    unfold flipR; split <;> grind
theorem A0_col {k : Nat} (hk : k < m.length) {j : Nat} (hj : j < (m.headD []).length) : A0 m rhs k j = flipR (flipB (rhs.getD k 0)) ((m.getD k []).getD j 0) := by
  rw [A0_eq hk (by omega)]
  unfold entry
  rw [if_neg (by omega), if_pos hj]
theorem A0_last {k : Nat} (hk : k < m.length) : A0 m rhs k ((m.headD []).length + m.length) = flipR (flipB (rhs.getD k 0)) (rhs.getD k 0) := by
  rw [A0_eq hk (Nat.le_refl _)]
  unfold entry
  rw [if_neg (by omega), if_neg (by omega), if_pos (by omega)]
theorem begin_basis {i : Nat} (hi : i < m.length) : (toS (beginL m rhs)).b i = (m.headD []).length + i := by
  simp [toS, beginL, List.getD, hi]
theorem begin_cost {j : Nat} (hj : j ≤ (m.headD []).length + m.length) : (toS (beginL m rhs)).c j = c0 m.length (m.headD []).length j - sumN m.length (fun k => A0 m rhs k j) := by
  have h1 : (toS (beginL m rhs)).c j = - if counts (m.headD []).length ((m.headD []).length + m.length + 1) j then sumN m.length (fun k => A0 m rhs k j) else 0 := by
    simp only [toS, beginL]
    rw [costL_get _ _ j (by omega) (by simp)]
    have : (List.replicate ((m.headD []).length + m.length + 1) (0 : Rat)).getD j 0 = 0 := by
      simp [List.getD, List.getElem?_replicate]
      split <;> rfl
    rw [this, (rowsL_len m rhs 0).1]
    have h2 : ∀ k, ((rowsL (m.headD []).length ((m.headD []).length + m.length + 1) m rhs 0).getD k []).getD j 0 = A0 m rhs k j := fun k => rfl
    simp only [h2]
    split <;> grind
  rw [h1]
  by_cases hc : counts (m.headD []).length ((m.headD []).length + m.length + 1) j = true
  · rw [if_pos hc]
    have : c0 m.length (m.headD []).length j = 0 := by
      simp only [counts, Bool.or_eq_true, decide_eq_true_eq] at hc
      exact if_neg (by omega)
    rw [this]; grind
  · rw [if_neg hc]
    simp only [counts, Bool.or_eq_true, decide_eq_true_eq, not_or] at hc
    obtain ⟨l, rfl⟩ : ∃ l, j = (m.headD []).length + l := ⟨j - (m.headD []).length, by omega⟩
    have hl : l < m.length := by omega
    have h3 : c0 m.length (m.headD []).length ((m.headD []).length + l) = 1 := if_pos ⟨by omega, by omega⟩
    rw [h3, sumN_congr (g := fun k => 1 * (if k = l then 1 else 0)) (fun k hk => by rw [A0_art hk hl]; split <;> grind), sumN_delta hl]
    grind
theorem begin_inv : Inv m.length (m.headD []).length (A0 m rhs) (toS (beginL m rhs)) := by
  have hr : ∀ i j, (toS (beginL m rhs)).r i j = A0 m rhs i j := fun _ _ => rfl
  refine ⟨fun i hi j hj => ?_, fun j hj => ?_, fun k hk j hj => ?_, fun i hi l hl => ?_, fun j hj => ?_, fun i hi => ?_, fun i hi => ?_⟩
  · simp only [hr]
    rw [sumN_congr (g := fun k => A0 m rhs k j * (if k = i then 1 else 0)) (fun k hk => by
      rw [A0_art hi hk]
      by_cases e : k = i
      · rw [if_pos e, if_pos e.symm]; grind
      · rw [if_neg e, if_neg (fun h => e h.symm)]; grind), sumN_delta hi]
  · rw [begin_cost hj]
    congr 1
    refine sumN_congr fun k hk => ?_
    have : (toS (beginL m rhs)).c ((m.headD []).length + k) = 0 := by
      rw [begin_cost (by omega)]
      have h3 : c0 m.length (m.headD []).length ((m.headD []).length + k) = 1 := if_pos ⟨by omega, by omega⟩
      rw [h3, sumN_congr (g := fun i => 1 * (if i = k then 1 else 0)) (fun i hi => by rw [A0_art hi hk]; split <;> grind), sumN_delta hk]
      grind
    rw [this]; grind
  · simp only [hr]
    rw [sumN_congr (g := fun i => A0 m rhs i j * (if i = k then 1 else 0)) (fun i hi => by
      rw [begin_basis hi, A0_art hk hi]
      by_cases e : i = k
      · rw [if_pos e, if_pos e.symm]; grind
      · rw [if_neg e, if_neg (fun h => e h.symm)]; grind), sumN_delta hk]
  · rw [begin_basis hl, hr, A0_art hi hl]
  · rw [begin_cost hj]
    congr 1
    refine sumN_congr fun i hi => ?_
    have h3 : c0 m.length (m.headD []).length ((m.headD []).length + i) = 1 := if_pos ⟨by omega, by omega⟩
    rw [begin_basis hi, h3, hr]; grind
  · rw [hr, A0_last hi]
    unfold flipR flipB
    by_cases hb : rhs.getD i 0 < 0
    · rw [if_pos (by simpa using hb)]; grind
    · rw [if_neg (by simpa using hb)]; grind
  · rw [begin_basis hi]; omega
def valuesL (cols last : Nat) : List (List Rat) → List Nat → List Rat → List Rat
  | r :: rows, b :: bs, y => valuesL cols last rows bs (if b < cols then y.set b (r.getD last 0) else y)
  | _, _, y => y
def multL (cols : Nat) (T : Tab) (rhs : List Rat) (n : Nat) : List Rat := (List.range n).map fun i => flipR (flipB (rhs.getD i 0)) (T.cost.getD (cols + i) 0 - 1)
def answerL (T : Tab) (rhs : List Rat) (n : Nat) : List Rat ⊕ List Rat :=
  if T.cost.getD (T.cost.length - 1) 0 = 0 then .inl (valuesL T.cols (T.cost.length - 1) T.rows T.basis (List.replicate T.cols 0)) else .inr (multL T.cols T rhs n)
theorem valuesL_get {cols last : Nat} : ∀ (rows : List (List Rat)) (bs : List Nat) (y : List Rat) (v : Nat), v < cols → y.length = cols → rows.length = bs.length → bs.Nodup →
    (valuesL cols last rows bs y).length = cols ∧ (valuesL cols last rows bs y).getD v 0 = if v ∈ bs then sumN bs.length (fun i => if bs.getD i 0 = v then (rows.getD i []).getD last 0 else 0) else y.getD v 0
  | [], [], y, v, _, hy, _, _ => by simp [valuesL, hy]
  | [], b :: bs, _, _, _, _, h, _ => by simp at h
  | r :: rows, [], _, _, _, _, h, _ => by simp at h
  | r :: rows, b :: bs, y, v, hv, hy, hl, hn => by
    obtain ⟨hn1, hn2⟩ := List.nodup_cons.1 hn
    have hs : ∀ (m : Nat) (f : Nat → Rat), sumN (m + 1) f = f 0 + sumN m (fun i => f (i + 1)) := by
      intro m f
      induction m with
      | zero => simp only [sumN]; grind
      | succ m ih =>
        have : sumN (m + 1 + 1) f = sumN (m + 1) f + f (m + 1) := rfl
        rw [this, ih]
        simp only [sumN]; grind
    obtain ⟨e1, e2⟩ := valuesL_get (last := last) rows bs (if b < cols then y.set b (r.getD last 0) else y) v hv (by split <;> simp [hy]) (by simpa using hl) hn2
    simp only [valuesL]
    refine ⟨e1, ?_⟩
    rw [e2, List.length_cons, hs]
    simp only [List.getD_cons_zero, List.getD_cons_succ, List.mem_cons]
    by_cases h1 : v ∈ bs
    · have hvb : b ≠ v := fun e => hn1 (e ▸ h1)
      rw [if_pos h1, if_pos (.inr h1), if_neg hvb]; grind
    · rw [if_neg h1]
      have hz : sumN bs.length (fun i => if bs.getD i 0 = v then (rows.getD i []).getD last 0 else 0) = 0 := by
        rw [sumN_congr (g := fun _ => 0) (fun i hi => if_neg (fun e => h1 (by
          rw [← e, List.getD_eq_getElem?_getD, List.getElem?_eq_getElem hi]; exact List.getElem_mem hi))), sumN_zero]
      rw [hz]
      by_cases h2 : b = v
      · subst h2
        rw [if_pos hv, if_pos (Or.inl rfl), if_pos rfl]
        simp [List.getD, hy, hv]
        grind
      · have hnot : ¬ (v = b ∨ v ∈ bs) := fun h => h.elim (fun e => h2 e.symm) h1
        by_cases hb : b < cols
        · rw [if_pos hb, if_neg hnot]
          simp [List.getD, List.getElem?_set, h2]
        · rw [if_neg hb, if_neg hnot]
theorem answer_right {T : Tab} (h : T.Ok m.length ((m.headD []).length + m.length + 1)) (hc : T.cols = (m.headD []).length) (hi : Inv m.length (m.headD []).length (A0 m rhs) (toS T)) (he : enterL T = none) :
    match answerL T rhs m.length with
    | .inl y => y.length = (m.headD []).length ∧ (∀ j, j < (m.headD []).length → 0 ≤ y.getD j 0) ∧ ∀ k, k < m.length → sumN (m.headD []).length (fun j => (m.getD k []).getD j 0 * y.getD j 0) = rhs.getD k 0
    | .inr u => u.length = m.length ∧ (∀ j, j < (m.headD []).length → 0 ≤ sumN m.length (fun k => u.getD k 0 * (m.getD k []).getD j 0)) ∧ sumN m.length (fun k => u.getD k 0 * rhs.getD k 0) < 0 := by
  have hlast : T.cost.length - 1 = (m.headD []).length + m.length := by rw [h.cw]; omega
  have hTc : T.cost.getD ((m.headD []).length + m.length) 0 = (toS T).c ((m.headD []).length + m.length) := rfl
  unfold answerL
  rw [hlast, hTc]
  have unflip : ∀ (f : Bool) (x y : Rat), flipR f x = flipR f y → x = y := by
    intro f x y hh
    unfold flipR at hh
    split at hh <;> grind
  by_cases hz : (toS T).c ((m.headD []).length + m.length) = 0
  · rw [if_pos hz]
    simp only
    have hnd : T.basis.Nodup := by
      rw [List.nodup_iff_pairwise_ne, List.pairwise_iff_getElem]
      intro i j h1 h2 hlt e
      have : i = j := hi.basis_inj (by rw [← h.bn]; exact h1) (by rw [← h.bn]; exact h2) (by simp [toS, List.getD, h1, h2, e])
      omega
    have hget : ∀ v, v < (m.headD []).length → (valuesL T.cols ((m.headD []).length + m.length) T.rows T.basis (List.replicate T.cols 0)).getD v 0 = value m.length (toS T) ((m.headD []).length + m.length) v := by
      intro v hv
      obtain ⟨_, e⟩ := valuesL_get (cols := T.cols) (last := (m.headD []).length + m.length) T.rows T.basis (List.replicate T.cols 0) v (by rw [hc]; exact hv) (by simp) (by rw [h.rn, h.bn]) hnd
      rw [e]
      by_cases hm : v ∈ T.basis
      · rw [if_pos hm, h.bn]; rfl
      · rw [if_neg hm]
        have : value m.length (toS T) ((m.headD []).length + m.length) v = 0 := value_out (fun i hi e => hm (by
          rw [← e]
          have hb : i < T.basis.length := by rw [h.bn]; exact hi
          simp only [toS, List.getD, List.getElem?_eq_getElem hb, Option.getD_some]
          exact List.getElem_mem hb)) _
        rw [this]
        simp [List.getD, List.getElem?_replicate]
        split <;> rfl
    refine ⟨?_, fun j hj => by rw [hget j hj]; exact hi.value_nonneg j, fun k hk => ?_⟩
    · have hv0 : ∀ (rows : List (List Rat)) (bs : List Nat) (y : List Rat), (valuesL T.cols ((m.headD []).length + m.length) rows bs y).length = y.length := by
        intro rows
        induction rows with
        | nil => intro bs y; cases bs <;> rfl
        | cons r rows ih =>
          intro bs y
          cases bs with
          | nil => rfl
          | cons b bs => simp only [valuesL]; rw [ih]; split <;> simp
      rw [hv0]; simp [hc]
    · have h1 := hi.solves hz hk
      rw [A0_last hk] at h1
      have h2 : sumN (m.headD []).length (fun j => A0 m rhs k j * value m.length (toS T) ((m.headD []).length + m.length) j) = flipR (flipB (rhs.getD k 0)) (sumN (m.headD []).length (fun j => (m.getD k []).getD j 0 * (valuesL T.cols ((m.headD []).length + m.length) T.rows T.basis (List.replicate T.cols 0)).getD j 0)) := by
        have h3 := sumN_mul (m.headD []).length (fun j => (m.getD k []).getD j 0 * (valuesL T.cols ((m.headD []).length + m.length) T.rows T.basis (List.replicate T.cols 0)).getD j 0) (-1)
        unfold flipR
        split
        · rename_i hf
          rw [show ∀ x : Rat, -x = x * (-1) by intro x; grind, ← h3]
          refine sumN_congr fun j hj => ?_
          rw [A0_col hk hj, hget j hj]
          unfold flipR; rw [if_pos hf]; grind
        · rename_i hf
          refine sumN_congr fun j hj => ?_
          rw [A0_col hk hj, hget j hj]
          unfold flipR; rw [if_neg hf]
      rw [h2] at h1
      exact unflip _ _ _ h1
  · rw [if_neg hz]
    simp only
    have hneg : (toS T).c ((m.headD []).length + m.length) < 0 := by have := hi.last_nonpos; grind
    have hu : ∀ k, k < m.length → (multL T.cols T rhs m.length).getD k 0 = flipR (flipB (rhs.getD k 0)) ((toS T).c ((m.headD []).length + k) - 1) := by
      intro k hk
      unfold multL
      rw [getD_range, if_pos hk, hc]; rfl
    have hff : ∀ (f : Bool) (x y : Rat), flipR f x * y = x * flipR f y := by
      intro f x y; unfold flipR; split <;> grind
    refine ⟨by simp [multL], fun j hj => ?_, ?_⟩
    · have h1 := enterL_none he j (by rw [hc]; exact hj)
      rw [hi.cost j (by omega), c0_low hj] at h1
      have h2 : sumN m.length (fun k => (multL T.cols T rhs m.length).getD k 0 * (m.getD k []).getD j 0) = 0 - sumN m.length (fun k => (1 - (toS T).c ((m.headD []).length + k)) * A0 m rhs k j) := by
        have := sumN_mul m.length (fun k => (1 - (toS T).c ((m.headD []).length + k)) * A0 m rhs k j) (-1)
        rw [show ∀ x : Rat, 0 - x = x * (-1) by intro x; grind, ← this]
        refine sumN_congr fun k hk => ?_
        rw [hu k hk, hff, A0_col hk hj]; grind
      rw [h2]; exact h1
    · rw [hi.cost _ (Nat.le_refl _), c0_last] at hneg
      have h2 : sumN m.length (fun k => (multL T.cols T rhs m.length).getD k 0 * rhs.getD k 0) = 0 - sumN m.length (fun k => (1 - (toS T).c ((m.headD []).length + k)) * A0 m rhs k ((m.headD []).length + m.length)) := by
        have := sumN_mul m.length (fun k => (1 - (toS T).c ((m.headD []).length + k)) * A0 m rhs k ((m.headD []).length + m.length)) (-1)
        rw [show ∀ x : Rat, 0 - x = x * (-1) by intro x; grind, ← this]
        refine sumN_congr fun k hk => ?_
        rw [hu k hk, hff, A0_last hk]; grind
      rw [h2]; exact hneg
end Go.Simplex
end
section
set_option linter.unusedSimpArgs false
namespace Go.Vm
open Go Go.Proofs Go.Whole
namespace YtihgdplbehempaaGreat
open Go.Proofs.Tryz
def dotQ : List Int → List Rat → Rat
  | c :: cs, x :: xs => (c : Rat) * x + dotQ cs xs
  | _, _ => 0
def rowQ (r : Row) (p : List Rat) : Rat := dotQ r.coefs p + (r.const : Rat)
def sumM : List Row → List Nat → List Rat → Rat
  | r :: rows, m :: ms, p => (m : Rat) * rowQ r p + sumM rows ms p
  | _, _, _ => 0
theorem dotQ_nil (l : List Int) : dotQ l [] = 0 := by cases l <;> rfl
theorem dotQ_add (m : Nat) : ∀ (l cs : List Int) (p : List Rat), l.length = cs.length → dotQ (List.zipWith (fun (v c : Int) => v + m * c) l cs) p = dotQ l p + (m : Rat) * dotQ cs p
  | [], [], p, _ => by cases p <;> simp only [List.zipWith, dotQ] <;> grind
  | [], c :: cs, _, h => by simp at h
  | v :: l, [], _, h => by simp at h
  | v :: l, c :: cs, [], _ => by rw [dotQ_nil, dotQ_nil, dotQ_nil]; grind
  | v :: l, c :: cs, x :: p, h => by
    have ih := dotQ_add m l cs p (by simpa using h)
    simp only [List.zipWith_cons_cons, dotQ, ih, Rat.intCast_add, Rat.intCast_mul]
    have : ((m : Int) : Rat) = (m : Rat) := rfl
    rw [this]; grind
theorem lsumR_rowQ (V : Nat) (p : List Rat) : ∀ (rows : List Row) (ms : List Nat) (out : List WI) (last : WI), out.length = V → (∀ r ∈ rows, r.coefs.length = V) →
    dotQ ((lsumR out last rows ms).1.map WI.z) p + ((lsumR out last rows ms).2.z : Rat) = dotQ (out.map WI.z) p + (last.z : Rat) + sumM rows ms p
  | [], ms, out, last, _, _ => by cases ms <;> simp only [lsumR, sumM] <;> grind
  | r :: rows, [], out, last, _, _ => by simp only [lsumR, sumM]; grind
  | r :: rows, m :: ms, out, last, hl, hr => by
    have hrl := hr r (by simp)
    simp only [lsumR, sumM]
    split
    · rename_i h0
      subst h0
      rw [lsumR_rowQ V p rows ms out last hl (fun x hx => hr x (by simp [hx]))]
      have : ((0 : Nat) : Rat) = 0 := rfl
      rw [this]; grind
    · rw [lsumR_rowQ V p rows ms _ _ (by simp [addW, hl, hrl]) (fun x hx => hr x (by simp [hx])), addW_v, dotQ_add m _ _ p (by simp [hl, hrl])]
      simp only [rowQ, Rat.intCast_add, Rat.intCast_mul]
      have : ((m : Int) : Rat) = (m : Rat) := rfl
      rw [this]; grind
theorem natQ (m : Nat) : (0 : Rat) ≤ (m : Rat) := by
  have : ((0 : Int) : Rat) ≤ ((m : Int) : Rat) := Rat.intCast_le_intCast.2 (by omega)
  exact this
theorem sumM_nonneg {p : List Rat} : ∀ (rows : List Row) (ms : List Nat), (∀ r ∈ rows, 0 ≤ rowQ r p) → 0 ≤ sumM rows ms p
  | [], ms, _ => by cases ms <;> exact Rat.le_refl
  | r :: rows, [], _ => Rat.le_refl
  | r :: rows, m :: ms, h => by
    have h1 := Rat.mul_nonneg (natQ m) (h r (by simp))
    have h2 := sumM_nonneg rows ms (fun x hx => h x (by simp [hx]))
    simp only [sumM]; grind
theorem dotQ_zero : ∀ (l : List Int) (p : List Rat), (∀ z ∈ l, z = 0) → dotQ l p = 0
  | [], p, _ => by cases p <;> rfl
  | z :: l, [], _ => rfl
  | z :: l, x :: p, h => by
    simp only [dotQ, h z (by simp), dotQ_zero l p (fun y hy => h y (by simp [hy]))]
    have : ((0 : Int) : Rat) = 0 := rfl
    rw [this]; grind
theorem eqW_dot (sc : Nat) (p : List Rat) : ∀ (out : List WI) (l : List Int), out.length = l.length → eqW out l sc = true → dotQ (out.map WI.z) p = (sc : Rat) * dotQ l p
  | [], [], _, _ => by cases p <;> simp only [List.map_nil, dotQ] <;> grind
  | [], c :: l, h, _ => by simp at h
  | x :: out, [], h, _ => by simp at h
  | x :: out, c :: l, hl, h => by
    simp only [eqW, Bool.and_eq_true, decide_eq_true_eq] at h
    cases p with
    | nil => rw [dotQ_nil, dotQ_nil]; grind
    | cons y p =>
      have ih := eqW_dot sc p out l (by simpa using hl) h.2
      simp only [List.map_cons, dotQ, ih, h.1, Rat.intCast_mul]
      have : ((sc : Int) : Rat) = (sc : Rat) := rfl
      rw [this]; grind
theorem dotQ_start (V : Nat) (p : List Rat) : dotQ ((List.replicate V zW).map WI.z) p = 0 := dotQ_zero _ _ fun z hz => by
  rw [List.map_replicate] at hz
  exact (List.mem_replicate.1 hz).2
theorem lsum_start (V : Nat) (rows : List Row) (ms : List Nat) (p : List Rat) (hr : ∀ r ∈ rows, r.coefs.length = V) :
    dotQ ((lsumR (List.replicate V zW) ⟨true, 0⟩ rows ms).1.map WI.z) p + ((lsumR (List.replicate V zW) ⟨true, 0⟩ rows ms).2.z : Rat) = sumM rows ms p := by
  rw [lsumR_rowQ V p rows ms _ _ (by simp) hr, dotQ_start]
  have : ((0 : Int) : Rat) = 0 := rfl
  simp only
  rw [this]; grind
theorem contra_sound {V : Nat} {rows : List Row} {ms : List Nat} {p : List Rat} (hr : ∀ r ∈ rows, r.coefs.length = V) (hp : ∀ r ∈ rows, 0 ≤ rowQ r p) :
    contraW (lsumR (List.replicate V zW) ⟨true, 0⟩ rows ms).1 (lsumR (List.replicate V zW) ⟨true, 0⟩ rows ms).2 = false := by
  rw [Bool.eq_false_iff]
  intro hc
  have h1 := lsum_start V rows ms p hr
  have h2 := sumM_nonneg rows ms hp
  generalize lsumR (List.replicate V zW) ⟨true, 0⟩ rows ms = q at *
  simp only [contraW, Bool.and_eq_true, decide_eq_true_eq, List.all_eq_true] at hc
  rw [dotQ_zero _ _ (fun z hz => by obtain ⟨x, hx, rfl⟩ := List.mem_map.1 hz; exact hc.2 x hx)] at h1
  have h3 : (q.2.z : Rat) < ((0 : Int) : Rat) := Rat.intCast_lt_intCast.2 hc.1
  have : ((0 : Int) : Rat) = 0 := rfl
  rw [this] at h3
  grind
theorem proves_sound {V : Nat} {rows : List Row} {ms : List Nat} {sc : Nat} {row : Row} {p : List Rat} (hr : ∀ r ∈ rows, r.coefs.length = V) (hrow : row.coefs.length = V) (hp : ∀ r ∈ rows, 0 ≤ rowQ r p)
    (hc : lprovW (lsumR (List.replicate V zW) ⟨true, 0⟩ rows ms) row sc = true) : 0 ≤ rowQ row p := by
  unfold lprovW at hc
  split at hc
  · rw [contra_sound hr hp] at hc; cases hc
  · rename_i h0
    have h1 := lsum_start V rows ms p hr
    have h2 := sumM_nonneg rows ms hp
    have h3 := lsumR_len rows ms (List.replicate V zW) ⟨true, 0⟩ (by simp) hr
    generalize lsumR (List.replicate V zW) ⟨true, 0⟩ rows ms = q at *
    simp only [Bool.and_eq_true, decide_eq_true_eq] at hc
    rw [eqW_dot sc p q.1 row.coefs (by omega) hc.1] at h1
    have h4 : (q.2.z : Rat) ≤ (((sc : Int) * row.const : Int) : Rat) := Rat.intCast_le_intCast.2 hc.2
    rw [Rat.intCast_mul] at h4
    have h5 : ((sc : Int) : Rat) = (sc : Rat) := rfl
    rw [h5] at h4
    have h6 : 0 ≤ (sc : Rat) * rowQ row p := by unfold rowQ; grind
    have h7 : (0 : Rat) < (sc : Rat) := by
      have : ((0 : Int) : Rat) < ((sc : Int) : Rat) := Rat.intCast_lt_intCast.2 (by omega)
      exact this
    refine Rat.not_lt.1 fun hn => ?_
    have := Rat.mul_pos h7 (show 0 < - rowQ row p by grind)
    grind
end YtihgdplbehempaaGreat
end Go.Vm
end
section
namespace Go.Simplex
abbrev Col := Nat → Rat
def d2 (a b : Col) (r s : Nat) : Rat := a r * b s - a s * b r
def d3 (a b c : Col) (r s t : Nat) : Rat := a r * d2 b c s t - a s * d2 b c r t + a t * d2 b c r s
def d4 (a b c d : Col) (r s t u : Nat) : Rat := a r * d3 b c d s t u - a s * d3 b c d r t u + a t * d3 b c d r s u - a u * d3 b c d r s t
def d5 (a b c d e : Col) : Rat := a 0 * d4 b c d e 1 2 3 4 - a 1 * d4 b c d e 0 2 3 4 + a 2 * d4 b c d e 0 1 3 4 - a 3 * d4 b c d e 0 1 2 4 + a 4 * d4 b c d e 0 1 2 3
theorem d2_swap (a b : Col) (r s : Nat) : d2 b a r s = - d2 a b r s := by unfold d2; grind
theorem d3_swap1 (a b c : Col) (r s t : Nat) : d3 b a c r s t = - d3 a b c r s t := by unfold d3 d2; grind
theorem d3_swap2 (a b c : Col) (r s t : Nat) : d3 a c b r s t = - d3 a b c r s t := by unfold d3; rw [d2_swap b c, d2_swap b c, d2_swap b c]; grind
theorem d4_swap1 (a b c d : Col) (r s t u : Nat) : d4 b a c d r s t u = - d4 a b c d r s t u := by unfold d4 d3; grind
theorem d4_swap2 (a b c d : Col) (r s t u : Nat) : d4 a c b d r s t u = - d4 a b c d r s t u := by unfold d4; simp only [d3_swap1 b c d]; grind
theorem d4_swap3 (a b c d : Col) (r s t u : Nat) : d4 a b d c r s t u = - d4 a b c d r s t u := by unfold d4; simp only [d3_swap2 b c d]; grind
theorem d5_swap1 (a b c d e : Col) : d5 b a c d e = - d5 a b c d e := by unfold d5 d4; grind
theorem d5_swap2 (a b c d e : Col) : d5 a c b d e = - d5 a b c d e := by unfold d5; simp only [d4_swap1 b c d e]; grind
theorem d5_swap3 (a b c d e : Col) : d5 a b d c e = - d5 a b c d e := by unfold d5; simp only [d4_swap2 b c d e]; grind
theorem d5_swap4 (a b c d e : Col) : d5 a b c e d = - d5 a b c d e := by unfold d5; simp only [d4_swap3 b c d e]; grind
theorem d5_lin (f g : Col) (x : Rat) (b c d e : Col) : d5 (fun k => f k + g k * x) b c d e = d5 f b c d e + d5 g b c d e * x := by unfold d5; grind
theorem d5_same (a c d e : Col) : d5 a a c d e = 0 := by have := d5_swap1 a a c d e; grind
theorem d5_same3 (a b d e : Col) : d5 a b a d e = 0 := by have := d5_swap2 a b a d e; have := d5_same a b d e; grind
theorem d5_same4 (a b c e : Col) : d5 a b c a e = 0 := by have := d5_swap3 a b c a e; have := d5_same3 a b c e; grind
theorem d5_same5 (a b c d : Col) : d5 a b c d a = 0 := by have := d5_swap4 a b c d a; have := d5_same4 a b c d; grind
def D (C : Nat → Col) : Rat := d5 (C 0) (C 1) (C 2) (C 3) (C 4)
def setC (C : Nat → Col) (i : Nat) (v : Col) : Nat → Col := fun l => if l = i then v else C l
def comb (C : Nat → Col) (x : Nat → Rat) : Col := fun k => C 0 k * x 0 + C 1 k * x 1 + C 2 k * x 2 + C 3 k * x 3 + C 4 k * x 4
theorem cramer0 (a b c d e : Col) (x y z u v : Rat) : d5 (fun k => a k * x + b k * y + c k * z + d k * u + e k * v) b c d e = x * d5 a b c d e := by
  have h1 := d5_lin (fun k => a k * x + b k * y + c k * z + d k * u) e v b c d e
  have h2 := d5_lin (fun k => a k * x + b k * y + c k * z) d u b c d e
  have h3 := d5_lin (fun k => a k * x + b k * y) c z b c d e
  have h4 := d5_lin (fun k => a k * x) b y b c d e
  have h5 := d5_lin (fun _ => 0) a x b c d e
  have h6 : d5 (fun _ => 0) b c d e = 0 := by unfold d5; grind
  have h7 : (fun k => 0 + a k * x) = fun k => a k * x := by funext k; grind
  rw [h7] at h5
  have e5 : d5 e b c d e = 0 := d5_same5 e b c d
  have e4 : d5 d b c d e = 0 := d5_same4 d b c e
  have e3 : d5 c b c d e = 0 := d5_same3 c b d e
  have e2 : d5 b b c d e = 0 := d5_same b c d e
  rw [h1, h2, h3, h4, h5, h6, e5, e4, e3, e2]; grind
theorem cramer (C : Nat → Col) (x : Nat → Rat) {i : Nat} (hi : i < 5) : D (setC C i (comb C x)) = x i * D C := by
  have hc : i = 0 ∨ i = 1 ∨ i = 2 ∨ i = 3 ∨ i = 4 := by omega
  unfold D setC comb
  rcases hc with rfl | rfl | rfl | rfl | rfl
  · simpa using cramer0 (C 0) (C 1) (C 2) (C 3) (C 4) (x 0) (x 1) (x 2) (x 3) (x 4)
  · have h := cramer0 (C 1) (C 0) (C 2) (C 3) (C 4) (x 1) (x 0) (x 2) (x 3) (x 4)
    rw [d5_swap1 (C 0) (C 1)] at h
    have e : (fun k => C 1 k * x 1 + C 0 k * x 0 + C 2 k * x 2 + C 3 k * x 3 + C 4 k * x 4) = fun k => C 0 k * x 0 + C 1 k * x 1 + C 2 k * x 2 + C 3 k * x 3 + C 4 k * x 4 := by funext k; grind
    rw [e] at h
    have h2 := d5_swap1 (fun k => C 0 k * x 0 + C 1 k * x 1 + C 2 k * x 2 + C 3 k * x 3 + C 4 k * x 4) (C 0) (C 2) (C 3) (C 4)
    simp only [if_true]
    simp
    grind
  · have h := cramer0 (C 2) (C 0) (C 1) (C 3) (C 4) (x 2) (x 0) (x 1) (x 3) (x 4)
    have e : (fun k => C 2 k * x 2 + C 0 k * x 0 + C 1 k * x 1 + C 3 k * x 3 + C 4 k * x 4) = fun k => C 0 k * x 0 + C 1 k * x 1 + C 2 k * x 2 + C 3 k * x 3 + C 4 k * x 4 := by funext k; grind
    rw [e] at h
    generalize (fun k => C 0 k * x 0 + C 1 k * x 1 + C 2 k * x 2 + C 3 k * x 3 + C 4 k * x 4) = V at *
    have h1 := d5_swap1 V (C 0) (C 1) (C 3) (C 4)
    have h2 := d5_swap2 (C 0) V (C 1) (C 3) (C 4)
    have h3 := d5_swap1 (C 2) (C 0) (C 1) (C 3) (C 4)
    have h4 := d5_swap2 (C 0) (C 2) (C 1) (C 3) (C 4)
    simp
    grind
  · have h := cramer0 (C 3) (C 0) (C 1) (C 2) (C 4) (x 3) (x 0) (x 1) (x 2) (x 4)
    have e : (fun k => C 3 k * x 3 + C 0 k * x 0 + C 1 k * x 1 + C 2 k * x 2 + C 4 k * x 4) = fun k => C 0 k * x 0 + C 1 k * x 1 + C 2 k * x 2 + C 3 k * x 3 + C 4 k * x 4 := by funext k; grind
    rw [e] at h
    generalize (fun k => C 0 k * x 0 + C 1 k * x 1 + C 2 k * x 2 + C 3 k * x 3 + C 4 k * x 4) = V at *
    have h1 := d5_swap1 V (C 0) (C 1) (C 2) (C 4)
    have h2 := d5_swap2 (C 0) V (C 1) (C 2) (C 4)
    have h3 := d5_swap3 (C 0) (C 1) V (C 2) (C 4)
    have h4 := d5_swap1 (C 3) (C 0) (C 1) (C 2) (C 4)
    have h5 := d5_swap2 (C 0) (C 3) (C 1) (C 2) (C 4)
    have h6 := d5_swap3 (C 0) (C 1) (C 3) (C 2) (C 4)
    simp
    grind
  · have h := cramer0 (C 4) (C 0) (C 1) (C 2) (C 3) (x 4) (x 0) (x 1) (x 2) (x 3)
    have e : (fun k => C 4 k * x 4 + C 0 k * x 0 + C 1 k * x 1 + C 2 k * x 2 + C 3 k * x 3) = fun k => C 0 k * x 0 + C 1 k * x 1 + C 2 k * x 2 + C 3 k * x 3 + C 4 k * x 4 := by funext k; grind
    rw [e] at h
    generalize (fun k => C 0 k * x 0 + C 1 k * x 1 + C 2 k * x 2 + C 3 k * x 3 + C 4 k * x 4) = V at *
    have h1 := d5_swap1 V (C 0) (C 1) (C 2) (C 3)
    have h2 := d5_swap2 (C 0) V (C 1) (C 2) (C 3)
    have h3 := d5_swap3 (C 0) (C 1) V (C 2) (C 3)
    have h4 := d5_swap4 (C 0) (C 1) (C 2) V (C 3)
    have h5 := d5_swap1 (C 4) (C 0) (C 1) (C 2) (C 3)
    have h6 := d5_swap2 (C 0) (C 4) (C 1) (C 2) (C 3)
    have h7 := d5_swap3 (C 0) (C 1) (C 4) (C 2) (C 3)
    have h8 := d5_swap4 (C 0) (C 1) (C 2) (C 4) (C 3)
    simp
    grind
def IntB (x : Rat) (c : Nat) : Prop := ∃ N : Int, x = (N : Rat) ∧ N.natAbs ≤ c
theorem IntB.mono {x : Rat} {c d : Nat} (h : IntB x c) (hc : c ≤ d) : IntB x d := by obtain ⟨N, h1, h2⟩ := h; exact ⟨N, h1, Nat.le_trans h2 hc⟩
theorem IntB.add {x y : Rat} {c d : Nat} (h : IntB x c) (h' : IntB y d) : IntB (x + y) (c + d) := by
  obtain ⟨N, rfl, h2⟩ := h; obtain ⟨M, rfl, h4⟩ := h'
  exact ⟨N + M, by rw [Rat.intCast_add], by omega⟩
theorem IntB.neg {x : Rat} {c : Nat} (h : IntB x c) : IntB (-x) c := by
  obtain ⟨N, rfl, h2⟩ := h
  exact ⟨-N, by rw [Rat.intCast_neg], by omega⟩
theorem IntB.sub {x y : Rat} {c d : Nat} (h : IntB x c) (h' : IntB y d) : IntB (x - y) (c + d) := by
  rw [Rat.sub_eq_add_neg]; exact h.add h'.neg
theorem IntB.mul {x y : Rat} {c d : Nat} (h : IntB x c) (h' : IntB y d) : IntB (x * y) (c * d) := by
  obtain ⟨N, rfl, h2⟩ := h; obtain ⟨M, rfl, h4⟩ := h'
  exact ⟨N * M, by rw [Rat.intCast_mul], by rw [Int.natAbs_mul]; exact Nat.mul_le_mul h2 h4⟩
def ColB (a : Col) (c : Nat) : Prop := ∀ k, IntB (a k) c
theorem d2_B {a b : Col} {c : Nat} (ha : ColB a c) (hb : ColB b c) (r s : Nat) : IntB (d2 a b r s) (2 * c ^ 2) :=
  (((ha r).mul (hb s)).sub ((ha s).mul (hb r))).mono (by rw [Nat.pow_two]; omega)
theorem d3_B {a b x : Col} {c : Nat} (ha : ColB a c) (hb : ColB b c) (hx : ColB x c) (r s t : Nat) : IntB (d3 a b x r s t) (6 * c ^ 3) := by
  refine ((((ha r).mul (d2_B hb hx s t)).sub ((ha s).mul (d2_B hb hx r t))).add ((ha t).mul (d2_B hb hx r s))).mono ?_
  have : c * (2 * c ^ 2) = 2 * c ^ 3 := by rw [Nat.mul_left_comm, ← Nat.pow_succ']
  omega
theorem d4_B {a b x y : Col} {c : Nat} (ha : ColB a c) (hb : ColB b c) (hx : ColB x c) (hy : ColB y c) (r s t u : Nat) : IntB (d4 a b x y r s t u) (24 * c ^ 4) := by
  refine (((((ha r).mul (d3_B hb hx hy s t u)).sub ((ha s).mul (d3_B hb hx hy r t u))).add ((ha t).mul (d3_B hb hx hy r s u))).sub ((ha u).mul (d3_B hb hx hy r s t))).mono ?_
  have : c * (6 * c ^ 3) = 6 * c ^ 4 := by rw [Nat.mul_left_comm, ← Nat.pow_succ']
  omega
theorem d5_B {a b x y z : Col} {c : Nat} (ha : ColB a c) (hb : ColB b c) (hx : ColB x c) (hy : ColB y c) (hz : ColB z c) : IntB (d5 a b x y z) (120 * c ^ 5) := by
  refine ((((((ha 0).mul (d4_B hb hx hy hz 1 2 3 4)).sub ((ha 1).mul (d4_B hb hx hy hz 0 2 3 4))).add ((ha 2).mul (d4_B hb hx hy hz 0 1 3 4))).sub ((ha 3).mul (d4_B hb hx hy hz 0 1 2 4))).add ((ha 4).mul (d4_B hb hx hy hz 0 1 2 3))).mono ?_
  have : c * (24 * c ^ 4) = 24 * c ^ 5 := by rw [Nat.mul_left_comm, ← Nat.pow_succ']
  omega
end Go.Simplex
namespace Go.Simplex
def colC (n : Nat) (A : Nat → Nat → Rat) (s : S) : Nat → Col := fun l k => if l < n then (if k < n then A k (s.b l) else 0) else if k = l then 1 else 0
def colV (n : Nat) (A : Nat → Nat → Rat) (j : Nat) : Col := fun k => if k < n then A k j else 0
variable {n cols : Nat} {A : Nat → Nat → Rat} {s : S}
theorem comb_sum (C : Nat → Col) (x : Nat → Rat) (hn : n ≤ 5) (hx : ∀ i, n ≤ i → x i = 0) (k : Nat) : comb C x k = sumN n fun i => C i k * x i := by
  have hc : n = 0 ∨ n = 1 ∨ n = 2 ∨ n = 3 ∨ n = 4 ∨ n = 5 := by omega
  unfold comb
  rcases hc with rfl | rfl | rfl | rfl | rfl | rfl <;> simp only [sumN] <;> (try rw [hx 0 (by omega)]) <;> (try rw [hx 1 (by omega)]) <;> (try rw [hx 2 (by omega)]) <;> (try rw [hx 3 (by omega)]) <;> (try rw [hx 4 (by omega)]) <;> grind
theorem Inv.colV (h : Inv n cols A s) (hn : n ≤ 5) {j : Nat} (hj : j ≤ cols + n) : Simplex.colV n A j = Simplex.comb (colC n A s) fun i => if i < n then s.r i j else 0 := by
  funext k
  rw [comb_sum _ _ hn (fun i hi => if_neg (by omega))]
  unfold Simplex.colV
  by_cases hk : k < n
  · rw [if_pos hk, h.back k hk j hj]
    exact sumN_congr fun i hi => by simp only [colC, if_pos hi, if_pos hk]
  · rw [if_neg hk, sumN_congr (g := fun _ => 0) (fun i hi => by simp only [colC, if_pos hi, if_neg hk]; grind), sumN_zero]
theorem Inv.entryD (h : Inv n cols A s) (hn : n ≤ 5) {j i : Nat} (hj : j ≤ cols + n) (hi : i < n) : D (setC (colC n A s) i (Simplex.colV n A j)) = s.r i j * D (colC n A s) := by
  rw [h.colV hn hj, cramer _ _ (by omega), if_pos hi]
theorem piv_col {p q : Nat} (hp : p < n) : colC n A (piv s p q) = setC (colC n A s) p (colV n A q) := by
  funext l k
  unfold colC setC colV
  by_cases e : l = p
  · subst e; simp [piv, hp]
  · simp [piv, e]
theorem Inv.det_piv (h : Inv n cols A s) (hn : n ≤ 5) {p q : Nat} (hp : p < n) (hq : q < cols) (ha : 0 < s.r p q) (hd : D (colC n A s) ≠ 0) : D (colC n A (Simplex.piv s p q)) ≠ 0 := by
  rw [piv_col hp, h.entryD hn (by omega) hp]
  intro e
  rcases Rat.mul_eq_zero.1 e with e | e
  · grind
  · exact hd e
theorem setC_B {C : Nat → Col} {c : Nat} (hC : ∀ l, ColB (C l) c) (i : Nat) {v : Col} (hv : ColB v c) : ∀ l, ColB (setC C i v l) c := fun l k => by
  unfold setC; split
  · exact hv k
  · exact hC l k
theorem D_B {C : Nat → Col} {c : Nat} (hC : ∀ l, ColB (C l) c) : IntB (D C) (120 * c ^ 5) := d5_B (hC 0) (hC 1) (hC 2) (hC 3) (hC 4)
theorem Inv.bounded (h : Inv n cols A s) (hn : n ≤ 5) {c : Nat} (hc : 1 ≤ c) (hA : ∀ k, k < n → ∀ j, j ≤ cols + n → IntB (A k j) c) (hd : D (colC n A s) ≠ 0) :
    ∃ d : Int, d ≠ 0 ∧ d.natAbs ≤ 120 * c ^ 5 ∧ (∀ i, i < n → ∀ j, j ≤ cols + n → IntB ((d : Rat) * s.r i j) (120 * c ^ 5)) ∧ ∀ j, j ≤ cols + n → IntB ((d : Rat) * s.c j) (6 * (120 * c ^ 5)) := by
  have zB : IntB 0 c := ⟨0, rfl, Nat.zero_le _⟩
  have oB : IntB 1 c := ⟨1, rfl, hc⟩
  have hC : ∀ l, ColB (colC n A s l) c := fun l k => by
    unfold colC
    by_cases hl : l < n
    · by_cases hk : k < n
      · rw [if_pos hl, if_pos hk]; exact hA k hk _ (Nat.le_of_lt (h.bl l hl))
      · rw [if_pos hl, if_neg hk]; exact zB
    · rw [if_neg hl]; split
      · exact oB
      · exact zB
  have hV : ∀ j, j ≤ cols + n → ColB (Simplex.colV n A j) c := fun j hj k => by
    unfold Simplex.colV; split
    · exact hA k (by assumption) j hj
    · exact zB
  obtain ⟨d, hd1, hd2⟩ := D_B hC
  have hent : ∀ i, i < n → ∀ j, j ≤ cols + n → IntB ((d : Rat) * s.r i j) (120 * c ^ 5) := fun i hi j hj => by
    rw [← hd1, Rat.mul_comm, ← h.entryD hn hj hi]
    exact D_B (setC_B hC i (hV j hj))
  refine ⟨d, fun e => hd (by rw [hd1, e]; rfl), hd2, hent, fun j hj => ?_⟩
  rw [h.art j hj]
  have hsum : ∀ m, m ≤ n → IntB ((d : Rat) * sumN m (fun i => c0 n cols (s.b i) * s.r i j)) (m * (120 * c ^ 5)) := by
    intro m
    induction m with
    | zero => intro _; exact ⟨0, by simp only [sumN]; grind, Nat.zero_le _⟩
    | succ m ih =>
      intro hm
      have h1 := ih (by omega)
      have h2 := hent m (by omega) j hj
      have h3 : IntB ((d : Rat) * (c0 n cols (s.b m) * s.r m j)) (120 * c ^ 5) := by
        unfold c0; split
        · have : (d : Rat) * (1 * s.r m j) = (d : Rat) * s.r m j := by grind
          rw [this]; exact h2
        · exact ⟨0, by grind, Nat.zero_le _⟩
      have := h1.add h3
      rw [Nat.succ_mul]
      have e : (d : Rat) * sumN (m + 1) (fun i => c0 n cols (s.b i) * s.r i j) = (d : Rat) * sumN m (fun i => c0 n cols (s.b i) * s.r i j) + (d : Rat) * (c0 n cols (s.b m) * s.r m j) := by simp only [sumN]; grind
      rw [e]; exact this
  have h1 := hsum n (Nat.le_refl _)
  have h0 : IntB ((d : Rat) * c0 n cols j) (120 * c ^ 5) := by
    unfold c0; split
    · exact ⟨d, by grind, hd2⟩
    · exact ⟨0, by grind, Nat.zero_le _⟩
  have e : (d : Rat) * (c0 n cols j - sumN n (fun i => c0 n cols (s.b i) * s.r i j)) = (d : Rat) * c0 n cols j - (d : Rat) * sumN n (fun i => c0 n cols (s.b i) * s.r i j) := by grind
  rw [e]
  refine (h0.sub h1).mono ?_
  have : n * (120 * c ^ 5) ≤ 5 * (120 * c ^ 5) := Nat.mul_le_mul_right _ hn
  omega
end Go.Simplex
end
section
namespace Go.Simplex
def ex (c : Col) : (List Nat → Rat) → List Nat → Rat
  | _, [] => 0
  | f, r :: l => c r * f l - ex c (fun m => f (r :: m)) l
theorem ex_congr (c : Col) : ∀ (l : List Nat) (f g : List Nat → Rat), (∀ m, f m = g m) → ex c f l = ex c g l
  | [], _, _, _ => rfl
  | r :: l, f, g, h => by simp only [ex]; rw [h l, ex_congr c l _ _ (fun m => h (r :: m))]
theorem ex_add (c : Col) : ∀ (l : List Nat) (f g : List Nat → Rat), ex c (fun m => f m + g m) l = ex c f l + ex c g l
  | [], _, _ => by simp only [ex]; grind
  | r :: l, f, g => by simp only [ex]; rw [ex_add c l]; grind
theorem ex_sub (c : Col) : ∀ (l : List Nat) (f g : List Nat → Rat), ex c (fun m => f m - g m) l = ex c f l - ex c g l
  | [], _, _ => by simp only [ex]; grind
  | r :: l, f, g => by simp only [ex]; rw [ex_sub c l]; grind
theorem ex_mul (c : Col) (x : Rat) : ∀ (l : List Nat) (f : List Nat → Rat), ex c (fun m => f m * x) l = ex c f l * x
  | [], _ => by simp only [ex]; grind
  | r :: l, f => by simp only [ex]; rw [ex_mul c x l]; grind
theorem ex_neg (c : Col) : ∀ (l : List Nat) (f : List Nat → Rat), ex c (fun m => - f m) l = - ex c f l
  | [], _ => by simp only [ex]; grind
  | r :: l, f => by simp only [ex]; rw [ex_neg c l]; grind
theorem ex_zero (c : Col) : ∀ (l : List Nat), ex c (fun _ => 0) l = 0
  | [] => rfl
  | r :: l => by simp only [ex]; rw [ex_zero c l]; grind
theorem ex_lin (a b : Col) (x : Rat) : ∀ (l : List Nat) (f : List Nat → Rat), ex (fun k => a k + b k * x) f l = ex a f l + ex b f l * x
  | [], _ => by simp only [ex]; grind
  | r :: l, f => by simp only [ex]; rw [ex_lin a b x l]; grind
theorem ex_col0 : ∀ (l : List Nat) (f : List Nat → Rat), ex (fun _ => 0) f l = 0
  | [], _ => rfl
  | r :: l, f => by simp only [ex]; rw [ex_col0 l]; grind
theorem ex_swap (a b : Col) : ∀ (l : List Nat) (F : List Nat → Rat), ex a (ex b F) l = - ex b (ex a F) l
  | [], _ => by simp only [ex]; grind
  | r :: l, F => by
    have ih := ex_swap a b l (fun m => F (r :: m))
    have e1 : ex a (fun m => ex b F (r :: m)) l = ex a F l * b r - ex a (ex b (fun m => F (r :: m))) l := by
      rw [← ex_mul, ← ex_sub]; exact ex_congr _ _ _ _ fun m => by simp only [ex]; grind
    have e2 : ex b (fun m => ex a F (r :: m)) l = ex b F l * a r - ex b (ex a (fun m => F (r :: m))) l := by
      rw [← ex_mul, ← ex_sub]; exact ex_congr _ _ _ _ fun m => by simp only [ex]; grind
    have e3 : ex a (ex b F) (r :: l) = a r * ex b F l - ex a (fun m => ex b F (r :: m)) l := rfl
    have e4 : ex b (ex a F) (r :: l) = b r * ex a F l - ex b (fun m => ex a F (r :: m)) l := rfl
    rw [e3, e4, e1, e2, ih]; grind
def det : List Col → List Nat → Rat
  | [], _ => 1
  | c :: cs, l => ex c (det cs) l
theorem det_cons (c : Col) (cs : List Col) (l : List Nat) : det (c :: cs) l = ex c (det cs) l := rfl
theorem det_swap (a b : Col) (post : List Col) : ∀ (pre : List Col) (l : List Nat), det (pre ++ a :: b :: post) l = - det (pre ++ b :: a :: post) l
  | [], l => ex_swap a b l (det post)
  | c :: pre, l => by
    rw [List.cons_append, List.cons_append, det_cons, det_cons, ← ex_neg]
    exact ex_congr _ _ _ _ fun m => det_swap a b post pre m
theorem det_same (a : Col) (post : List Col) : ∀ (mid pre : List Col) (l : List Nat), det (pre ++ a :: (mid ++ a :: post)) l = 0
  | [], pre, l => by have := det_swap a a post pre l; simp only [List.nil_append]; grind
  | m :: mid, pre, l => by
    have h1 := det_swap a m (mid ++ a :: post) pre l
    have h2 := det_same a post mid (pre ++ [m]) l
    rw [List.append_assoc, List.cons_append, List.nil_append] at h2
    rw [List.cons_append, h1, h2]; grind
theorem split_at {α : Type} {l : List α} {i : Nat} {a : α} (h : l[i]? = some a) : l = l.take i ++ a :: l.drop (i + 1) := by
  obtain ⟨hi, rfl⟩ := List.getElem?_eq_some_iff.1 h
  rw [← List.drop_eq_getElem_cons hi, List.take_append_drop]
theorem det_dup {cs : List Col} {i j : Nat} {a : Col} (hij : i < j) (hi : cs[i]? = some a) (hj : cs[j]? = some a) (l : List Nat) : det cs l = 0 := by
  have h1 := split_at hi
  have h2 : (cs.drop (i + 1))[j - (i + 1)]? = some a := by
    rw [List.getElem?_drop, ← hj]; congr 1; omega
  have h3 := split_at h2
  rw [h1, h3]
  exact det_same a _ _ _ l
theorem det_lin (f g : Col) (x : Rat) : ∀ (cs : List Col) (i : Nat) (l : List Nat), i < cs.length → det (cs.set i (fun k => f k + g k * x)) l = det (cs.set i f) l + det (cs.set i g) l * x
  | [], _, _, h => by simp at h
  | c :: cs, 0, l, _ => by simp only [List.set_cons_zero, det_cons]; exact ex_lin f g x l _
  | c :: cs, i + 1, l, h => by
    simp only [List.set_cons_succ, det_cons]
    rw [← ex_mul, ← ex_add]
    exact ex_congr _ _ _ _ fun m => det_lin f g x cs i m (by simpa using h)
theorem det_col0 : ∀ (cs : List Col) (i : Nat) (l : List Nat), i < cs.length → det (cs.set i (fun _ => 0)) l = 0
  | [], _, _, h => by simp at h
  | c :: cs, 0, l, _ => by simp only [List.set_cons_zero, det_cons]; exact ex_col0 l _
  | c :: cs, i + 1, l, h => by
    simp only [List.set_cons_succ, det_cons]
    rw [ex_congr c l _ (fun _ => 0) (fun m => det_col0 cs i m (by simpa using h)), ex_zero]
abbrev Z : Col := fun _ => 0
theorem det_set_sum (cs : List Col) (x : Nat → Rat) {i : Nat} (hi : i < cs.length) (l : List Nat) : ∀ m, m ≤ cs.length →
    det (cs.set i (fun k => sumN m (fun j => cs.getD j Z k * x j))) l = sumN m (fun j => (if j = i then det cs l else 0) * x j)
  | 0, _ => by simp only [sumN]; exact det_col0 cs i l hi
  | m + 1, hm => by
    simp only [sumN]
    rw [det_lin (fun k => sumN m (fun j => cs.getD j Z k * x j)) (cs.getD m Z) (x m) cs i l hi, det_set_sum cs x hi l m (by omega)]
    congr 1
    have hg : cs[m]? = some (cs.getD m Z) := by
      rw [List.getD_eq_getElem?_getD, List.getElem?_eq_getElem (by omega)]; rfl
    by_cases e : m = i
    · subst e
      rw [if_pos rfl]
      congr 1
      have : cs.set m (cs.getD m Z) = cs := by
        apply List.ext_getElem?
        intro k
        rw [List.getElem?_set]
        by_cases hk : m = k
        · subst hk; rw [if_pos rfl, if_pos hi, hg]
        · rw [if_neg hk]
      rw [this]
    · rw [if_neg e]
      have hd : det (cs.set i (cs.getD m Z)) l = 0 := by
        have hs1 : (cs.set i (cs.getD m Z))[i]? = some (cs.getD m Z) := List.getElem?_set_self hi
        have hs2 : (cs.set i (cs.getD m Z))[m]? = some (cs.getD m Z) := by rw [List.getElem?_set_ne (fun h => e h.symm)]; exact hg
        rcases Nat.lt_or_gt_of_ne e with h | h
        · exact det_dup h hs2 hs1 l
        · exact det_dup h hs1 hs2 l
      rw [hd]
theorem cramerN (cs : List Col) (x : Nat → Rat) {i : Nat} (hi : i < cs.length) (l : List Nat) :
    det (cs.set i (fun k => sumN cs.length (fun j => cs.getD j Z k * x j))) l = x i * det cs l := by
  rw [det_set_sum cs x hi l _ (Nat.le_refl _)]
  have : sumN cs.length (fun j => (if j = i then det cs l else 0) * x j) = sumN cs.length (fun j => (x j * det cs l) * (if j = i then 1 else 0)) := sumN_congr fun j _ => by
    split <;> grind
  rw [this, sumN_delta hi]
theorem ex_B {c : Col} {k B : Nat} (hc : ColB c k) : ∀ (l : List Nat) (f : List Nat → Rat), (∀ m, m.length + 1 = l.length → IntB (f m) B) → IntB (ex c f l) (l.length * (k * B))
  | [], _, _ => ⟨0, rfl, Nat.zero_le _⟩
  | r :: l, f, h => by
    have h1 := (hc r).mul (h l (by simp))
    have h2 := ex_B hc l (fun m => f (r :: m)) (fun m hm => h (r :: m) (by simp [hm]))
    refine (h1.sub h2).mono ?_
    rw [List.length_cons, Nat.succ_mul]; omega
theorem det_B {k M : Nat} : ∀ (cs : List Col) (l : List Nat), (∀ c ∈ cs, ColB c k) → l.length ≤ M → IntB (det cs l) ((M * k) ^ cs.length)
  | [], _, _, _ => ⟨1, rfl, by simp⟩
  | c :: cs, l, hc, hl => by
    refine (ex_B (B := (M * k) ^ cs.length) (hc c (by simp)) l (det cs) (fun m hm => det_B cs m (fun x hx => hc x (by simp [hx])) (by omega))).mono ?_
    rw [List.length_cons, Nat.pow_succ', ← Nat.mul_assoc]
    exact Nat.mul_le_mul_right _ (Nat.mul_le_mul_right _ hl)
def colsN (n : Nat) (A : Nat → Nat → Rat) (s : S) : List Col := (List.range n).map fun l => colV n A (s.b l)
variable {n cols : Nat} {A : Nat → Nat → Rat} {s : S}
theorem colsN_len : (colsN n A s).length = n := by simp [colsN]
theorem colsN_get {l : Nat} (hl : l < n) : (colsN n A s).getD l Z = colV n A (s.b l) := by simp [colsN, List.getD, hl]
theorem Inv.colVN (h : Inv n cols A s) {j : Nat} (hj : j ≤ cols + n) : Simplex.colV n A j = fun k => sumN (colsN n A s).length (fun i => (colsN n A s).getD i Z k * s.r i j) := by
  funext k
  rw [colsN_len]
  unfold Simplex.colV
  by_cases hk : k < n
  · rw [if_pos hk, h.back k hk j hj]
    exact sumN_congr fun i hi => by rw [colsN_get hi]; simp only [Simplex.colV, if_pos hk]
  · rw [if_neg hk, sumN_congr (g := fun _ => 0) (fun i hi => by rw [colsN_get hi]; simp only [Simplex.colV, if_neg hk]; grind), sumN_zero]
abbrev DN (n : Nat) (A : Nat → Nat → Rat) (s : S) : Rat := det (colsN n A s) (List.range n)
theorem Inv.entryN (h : Inv n cols A s) {j i : Nat} (hj : j ≤ cols + n) (hi : i < n) : det ((colsN n A s).set i (Simplex.colV n A j)) (List.range n) = s.r i j * DN n A s := by
  rw [h.colVN hj]
  exact cramerN (colsN n A s) (fun i => s.r i j) (by rw [colsN_len]; exact hi) _
theorem piv_colsN {p q : Nat} : colsN n A (piv s p q) = (colsN n A s).set p (colV n A q) := by
  apply List.ext_getElem?
  intro k
  rw [List.getElem?_set]
  by_cases hk : k < n
  · have h1 : (colsN n A (piv s p q))[k]? = some (colV n A ((piv s p q).b k)) := by simp [colsN, hk]
    have h2 : (colsN n A s)[k]? = some (colV n A (s.b k)) := by simp [colsN, hk]
    rw [h1, h2, colsN_len]
    by_cases e : p = k
    · subst e; rw [if_pos rfl, if_pos hk]; simp [piv]
    · rw [if_neg e]; simp only [piv]; rw [if_neg (fun h => e h.symm)]
  · have h1 : (colsN n A (piv s p q))[k]? = none := by simp [colsN]; omega
    have h2 : (colsN n A s)[k]? = none := by simp [colsN]; omega
    rw [h1, h2, colsN_len]
    by_cases e : p = k
    · subst e; rw [if_pos rfl, if_neg hk]
    · rw [if_neg e]
theorem Inv.detN_piv (h : Inv n cols A s) {p q : Nat} (hp : p < n) (hq : q < cols) (ha : 0 < s.r p q) (hd : DN n A s ≠ 0) : DN n A (Simplex.piv s p q) ≠ 0 := by
  unfold DN
  rw [piv_colsN, h.entryN (by omega) hp]
  intro e
  rcases Rat.mul_eq_zero.1 e with e | e
  · grind
  · exact hd e
theorem ex_unit0 {c : Col} : ∀ (l : List Nat) (f : List Nat → Rat), (∀ r ∈ l, c r = 0) → ex c f l = 0
  | [], _, _ => rfl
  | r :: l, f, h => by simp only [ex]; rw [h r (by simp), ex_unit0 l _ (fun r hr => h r (by simp [hr]))]; grind
theorem det_unit (C : Nat → Col) (n : Nat) (hC : ∀ l k, l < n → k < n → C l k = if k = l then 1 else 0) : ∀ (d a : Nat), a + d = n → det ((List.range' a d).map C) (List.range' a d) = 1
  | 0, a, _ => rfl
  | d + 1, a, h => by
    rw [List.range'_succ, List.map_cons, det_cons, ex, det_unit C n hC d (a + 1) (by omega), hC a a (by omega) (by omega), if_pos rfl, ex_unit0 _ _ (fun r hr => by
      rw [List.mem_range'_1] at hr
      rw [hC a r (by omega) (by omega), if_neg (by omega)])]
    grind
theorem DN_unit (hu : ∀ k l, k < n → l < n → A k (s.b l) = if k = l then 1 else 0) : DN n A s = 1 := by
  unfold DN colsN
  rw [List.range_eq_range']
  refine det_unit _ n (fun l k hl hk => ?_) n 0 (by omega)
  simp only [colV, if_pos hk]
  exact hu k l hk hl
theorem Inv.boundedN (h : Inv n cols A s) {c : Nat} (hA : ∀ k, k < n → ∀ j, j ≤ cols + n → IntB (A k j) c) (hd : DN n A s ≠ 0) :
    ∃ d : Int, d ≠ 0 ∧ d.natAbs ≤ (n * c) ^ n ∧ (∀ i, i < n → ∀ j, j ≤ cols + n → IntB ((d : Rat) * s.r i j) ((n * c) ^ n)) ∧ ∀ j, j ≤ cols + n → IntB ((d : Rat) * s.c j) ((n + 1) * (n * c) ^ n) := by
  have zB : IntB 0 c := ⟨0, rfl, Nat.zero_le _⟩
  have hV : ∀ j, j ≤ cols + n → ColB (Simplex.colV n A j) c := fun j hj k => by
    unfold Simplex.colV; split
    · exact hA k (by assumption) j hj
    · exact zB
  have hC : ∀ x ∈ colsN n A s, ColB x c := fun x hx => by
    simp only [colsN, List.mem_map, List.mem_range] at hx
    obtain ⟨l, hl, rfl⟩ := hx
    exact hV _ (Nat.le_of_lt (h.bl l hl))
  obtain ⟨d, hd1, hd2⟩ := det_B (M := n) (colsN n A s) (List.range n) hC (by simp)
  rw [colsN_len] at hd2
  have hent : ∀ i, i < n → ∀ j, j ≤ cols + n → IntB ((d : Rat) * s.r i j) ((n * c) ^ n) := fun i hi j hj => by
    rw [← hd1, Rat.mul_comm, ← h.entryN hj hi]
    have := det_B (M := n) ((colsN n A s).set i (Simplex.colV n A j)) (List.range n) (fun x hx => by
      rcases List.mem_or_eq_of_mem_set hx with hx | rfl
      · exact hC x hx
      · exact hV j hj) (by simp)
    rw [List.length_set, colsN_len] at this
    exact this
  refine ⟨d, fun e => hd (by unfold DN; rw [hd1, e]; rfl), hd2, hent, fun j hj => ?_⟩
  rw [h.art j hj]
  have hsum : ∀ m, m ≤ n → IntB ((d : Rat) * sumN m (fun i => c0 n cols (s.b i) * s.r i j)) (m * (n * c) ^ n) := by
    intro m
    induction m with
    | zero => intro _; exact ⟨0, by simp only [sumN]; grind, Nat.zero_le _⟩
    | succ m ih =>
      intro hm
      have h1 := ih (by omega)
      have h2 := hent m (by omega) j hj
      have h3 : IntB ((d : Rat) * (c0 n cols (s.b m) * s.r m j)) ((n * c) ^ n) := by
        unfold c0; split
        · have : (d : Rat) * (1 * s.r m j) = (d : Rat) * s.r m j := by grind
          rw [this]; exact h2
        · exact ⟨0, by grind, Nat.zero_le _⟩
      have := h1.add h3
      rw [Nat.succ_mul]
      have e : (d : Rat) * sumN (m + 1) (fun i => c0 n cols (s.b i) * s.r i j) = (d : Rat) * sumN m (fun i => c0 n cols (s.b i) * s.r i j) + (d : Rat) * (c0 n cols (s.b m) * s.r m j) := by simp only [sumN]; grind
      rw [e]; exact this
  have h1 := hsum n (Nat.le_refl _)
  have h0 : IntB ((d : Rat) * c0 n cols j) ((n * c) ^ n) := by
    unfold c0; split
    · exact ⟨d, by grind, hd2⟩
    · exact ⟨0, by grind, Nat.zero_le _⟩
  have e : (d : Rat) * (c0 n cols j - sumN n (fun i => c0 n cols (s.b i) * s.r i j)) = (d : Rat) * c0 n cols j - (d : Rat) * sumN n (fun i => c0 n cols (s.b i) * s.r i j) := by grind
  rw [e]
  refine (h0.sub h1).mono ?_
  rw [Nat.succ_mul]; omega
end Go.Simplex
end
section
set_option linter.unusedSimpArgs false
set_option maxRecDepth 10000
namespace Go.Vm
open Go Go.Proofs Go.Whole
namespace YtihgdplbehempaaGreat
open Go.Proofs.Tryz
attribute [go_sem] Tryz.results74 Tryz.results22
structure RV where
  num : Int
  den : Int
def RV.tr (q : RV) : Tr := .agg [i64 q.num, i64 q.den]
attribute [go_sem] RV.tr
def winB (k : Int) : Bool := decide (k ≥ -4611686018427387904) && decide (k ≤ 4611686018427387904)
def ratB (q : RV) : Bool := decide (q.den ≥ 1) && winB q.den && winB q.num && decide (Nat.gcd q.num.natAbs q.den.natAbs = 1)
def pointB (vars : Int) (l : List RV) : Bool := !((l.length : Int) != vars) && l.all ratB
theorem gcdN_d (a b : Nat) (ha : a < 18446744073709551616) (hb : b < 18446744073709551616) : DCall Tryz.prog 74 [.int .u64 (a : Int), .int .u64 (b : Int)] (.int .u64 ((Nat.gcd a b : Nat) : Int)) := by
  refine dcall_mk orders Tryz.func74 rfl (by kernel_rfl) noMu (by kernel_rfl) rfl (fun hs => ?_)
  clear hs
  repeat' (first
    | (with_reducible first | refine sA ?_ ?_ | refine sB ?_ ?_ | refine sC ?_ ?_ | refine sD ?_ ?_ | refine sE ?_ ?_ | refine sF ?_ ?_) <;> intro h
    | simp only [go_sem, *])
  refine loop_mk (fun m s' => ∃ x y : Nat, m = y ∧ s'.sl 0 = .t (.int .u64 (x : Int)) ∧ s'.sl 1 = .t (.int .u64 (y : Int)) ∧ x < 18446744073709551616 ∧ y < 18446744073709551616 ∧ Nat.gcd x y = Nat.gcd a b) b ⟨a, b, rfl, rfl, rfl, ha, hb, rfl⟩ ?_
  rintro y s' ⟨x, _, rfl, h5, h6, hx, hy, hg⟩ hfr G hG
  clear hfr
  by_cases h0 : y = 0
  · subst h0
    rw [Nat.gcd_zero_right] at hg
    subst hg
    have g1 : decide (((0 : Nat) : Int) > 0) = false := rfl
    repeat' (first
      | (with_reducible first | refine sA ?_ ?_ | refine sB ?_ ?_ | refine sC ?_ ?_ | refine sD ?_ ?_ | refine sE ?_ ?_ | refine sF ?_ ?_) <;> intro h
      | simp only [go_sem, *])
  · have g1 : decide (((y : Nat) : Int) > 0) = true := decide_eq_true (by omega)
    have g2 : ((y : Nat) : Int) = 0 ↔ False := by simp; omega
    have g3 : (x : Int).tmod (y : Int) = ((x % y : Nat) : Int) := rfl
    have hlt : x % y < y := Nat.mod_lt _ (by omega)
    have hg2 : Nat.gcd y (x % y) = Nat.gcd a b := by rw [← hg, Nat.gcd_comm x y, Nat.gcd_rec y x, Nat.gcd_comm]
    repeat' (first
      | (with_reducible first | refine sA ?_ ?_ | refine sB ?_ ?_ | refine sC ?_ ?_ | refine sD ?_ ?_ | refine sE ?_ ?_ | refine sF ?_ ?_) <;> intro h
      | simp only [go_sem, *])
    exact hG (x % y) _ hlt ⟨y, x % y, rfl, rfl, rfl, hy, by omega, hg2⟩
theorem point_d (vars : Int) (nn : Bool) (l : List RV) : DCall Tryz.prog 22 [i64 vars, .sl nn (l.map RV.tr)] (.bool (pointB vars l)) := by
  refine dcall_mk orders Tryz.func22 rfl (by kernel_rfl) (fun d => d == 6 || d == 17 || d == 21 || d == 26 || d == 31 || d == 36 || d == 39) (by kernel_rfl) rfl (fun hs => ?_)
  simp [sizedL, Tr.sized, RV.tr] at hs
  repeat' (first
    | (with_reducible first | refine sA ?_ ?_ | refine sB ?_ ?_ | refine sC ?_ ?_ | refine sD ?_ ?_ | refine sE ?_ ?_ | refine sF ?_ ?_) <;> intro h
    | simp only [go_sem, *])
  try any_goals (refine congrArg some ?_; first | rfl | (simp only [go_sem, pointB, *]; done) | (simp only [go_sem, pointB, *]; rfl) | (simp_all [pointB]; done))
  refine loop_range l (fun k s' => l.all ratB = (l.drop k).all ratB) rfl rfl (by first | assumption | omega) (by kernel_rfl) (fun _ _ _ _ hj => hj) (fun _ _ _ hj => hj) ?_ (fun k x s' hx hd hk hJ hix hfr G hG => ?_) (fun s' hJ hfr => ?_)
  · rfl
  · have c11 := hfr 11 (by kernel_rfl)
    clear hfr
    simp only [go_sem] at c11
    rw [hd, List.all_cons] at hJ
    by_cases hin : 1 ≤ x.den ∧ x.den ≤ 4611686018427387904 ∧ -4611686018427387904 ≤ x.num ∧ x.num ≤ 4611686018427387904
    · obtain ⟨i1, i2, i3, i4⟩ := hin
      have s1 := sizeN_d x.num ⟨by omega, by omega⟩
      have s2 := sizeN_d x.den ⟨by omega, by omega⟩
      have s3 := gcdN_d x.num.natAbs x.den.natAbs (by omega) (by omega)
      have e1 : decide (x.den < 1) = false := decide_eq_false (by omega)
      have e2 : decide (x.den > 4611686018427387904) = false := decide_eq_false (by omega)
      have e3 : decide (x.num < -4611686018427387904) = false := decide_eq_false (by omega)
      have e4 : decide (x.num > 4611686018427387904) = false := decide_eq_false (by omega)
      have e5 : ratB x = !(((Nat.gcd x.num.natAbs x.den.natAbs : Nat) : Int) != 1) := by
        simp only [ratB, winB]
        rw [Bool.eq_iff_iff]; simp; omega
      rw [e5] at hJ
      clear i1 i2 i3 i4 e5
      repeat' (first
        | (with_reducible first | refine sA ?_ ?_ | refine sB ?_ ?_ | refine sC ?_ ?_ | refine sD ?_ ?_ | refine sE ?_ ?_ | refine sF ?_ ?_) <;> intro h
        | refine clK_mk (s1) rfl ?_
        | refine clK_mk (s2) rfl ?_
        | refine clK_mk (s3) rfl ?_
        | simp only [go_sem, *])
      all_goals first
        | (refine hG _ ?_; simp only [go_sem]; simp_all; done)
        | (refine congrArg some ?_; simp_all [pointB]; done)
    · have e5 : ratB x = false := by
        rw [Bool.eq_false_iff]
        simp only [ratB, winB]
        intro hh
        simp only [Bool.and_eq_true, decide_eq_true_eq] at hh
        exact hin (by omega)
      rw [e5, Bool.false_and] at hJ
      repeat' (first
        | (with_reducible first | refine sA ?_ ?_ | refine sB ?_ ?_ | refine sC ?_ ?_ | refine sD ?_ ?_ | refine sE ?_ ?_ | refine sF ?_ ?_) <;> intro h
        | simp only [go_sem, *])
      all_goals first
        | (refine congrArg some ?_; simp_all [pointB]; done)
        | (exfalso; apply hin; simp only [decide_eq_false_iff_not] at *; omega)
  · simp only [List.drop_length, List.all_nil] at hJ
    repeat' (first
      | (with_reducible first | refine sA ?_ ?_ | refine sB ?_ ?_ | refine sC ?_ ?_ | refine sD ?_ ?_ | refine sE ?_ ?_ | refine sF ?_ ?_) <;> intro h
      | simp only [go_sem, *])
    try any_goals (refine congrArg some ?_; first | rfl | (simp only [go_sem, pointB, *]; done) | (simp only [go_sem, pointB, *]; rfl) | (simp_all [pointB]; done))
end YtihgdplbehempaaGreat
end Go.Vm
end
section
set_option linter.unusedSimpArgs false
set_option maxRecDepth 10000
namespace Go.Vm
open Go Go.Proofs Go.Whole
namespace YtihgdplbehempaaGreat
open Go.Proofs.Tryz
abbrev tRats : TypeId := 118
theorem B2 : B ^ 2 = 18446744073709551616 := by decide
def FB (q : Rat) (n d : Nat) : Prop := q.num.natAbs ≤ n ∧ q.den ≤ d
theorem FB.mono {q : Rat} {n d n' d' : Nat} (h : FB q n d) (h1 : n ≤ n') (h2 : d ≤ d') : FB q n' d' := ⟨Nat.le_trans h.1 h1, Nat.le_trans h.2 h2⟩
theorem FB.divInt {a b : Int} (hb : 0 < b) {n d : Nat} (h1 : a.natAbs ≤ n) (h2 : b.natAbs ≤ d) : FB (Rat.divInt a b) n d := by
  obtain ⟨e1, e2⟩ := divInt_num (a := a) hb
  refine ⟨?_, ?_⟩
  · rw [e1, Int.natAbs_tdiv]; exact Nat.le_trans (Nat.div_le_self _ _) h1
  · have h3 : ((Rat.divInt a b).den : Int).natAbs ≤ b.natAbs := by rw [e2, Int.natAbs_tdiv]; exact Nat.div_le_self _ _
    rw [Int.natAbs_natCast] at h3
    omega
theorem den_mul_pos (p q : Rat) : 0 < (p.den : Int) * q.den := by
  have := Nat.mul_pos p.den_pos q.den_pos
  rw [← Int.natCast_mul]; omega
theorem FB.add {p q : Rat} {n d n' d' : Nat} (h : FB p n d) (h' : FB q n' d') : FB (p + q) (n * d' + n' * d) (d * d') := by
  rw [add_eq]
  refine FB.divInt (den_mul_pos p q) ?_ ?_
  · have a1 : (p.num * q.den).natAbs ≤ n * d' := by rw [Int.natAbs_mul, Int.natAbs_natCast]; exact Nat.mul_le_mul h.1 h'.2
    have a2 : (q.num * p.den).natAbs ≤ n' * d := by rw [Int.natAbs_mul, Int.natAbs_natCast]; exact Nat.mul_le_mul h'.1 h.2
    omega
  · rw [Int.natAbs_mul, Int.natAbs_natCast, Int.natAbs_natCast]; exact Nat.mul_le_mul h.2 h'.2
theorem FB.mul {p q : Rat} {n d n' d' : Nat} (h : FB p n d) (h' : FB q n' d') : FB (p * q) (n * n') (d * d') := by
  rw [mul_eq]
  refine FB.divInt (den_mul_pos p q) ?_ ?_
  · rw [Int.natAbs_mul]; exact Nat.mul_le_mul h.1 h'.1
  · rw [Int.natAbs_mul, Int.natAbs_natCast, Int.natAbs_natCast]; exact Nat.mul_le_mul h.2 h'.2
theorem FB.int (z : Int) : FB (z : Rat) z.natAbs 1 := ⟨Nat.le_refl _, Nat.le_refl _⟩
theorem FB.fits {q : Rat} {n d k : Nat} (h : FB q n d) (hn : n < B ^ k) (hd : d < B ^ k) (hk : k ≤ 100000) : qfits q :=
  ⟨Nat.le_trans (digs_length_le (Nat.lt_of_le_of_lt h.1 hn)) hk, Nat.le_trans (digs_length_le (Nat.lt_of_le_of_lt h.2 hd)) hk⟩
theorem B_pow2 (k : Nat) : B ^ (2 * (k + 1)) = B ^ (2 * k) * 18446744073709551616 := by
  rw [Nat.mul_add, Nat.pow_add, show B ^ (2 * 1) = 18446744073709551616 by decide]
theorem B_pow_pos (k : Nat) : 0 < B ^ k := Nat.pow_pos B_pos
def partB (k : Nat) (q : Rat) : Prop := FB q (B ^ (2 * (k + 1))) (B ^ (2 * k))
theorem partB.fits {k : Nat} {q : Rat} (h : partB k q) (hk : k ≤ 1000) : qfits q := by
  have h1 : B ^ (2 * (k + 1)) < B ^ (2 * (k + 1) + 1) := Nat.pow_lt_pow_right (by rw [B_eq]; decide) (Nat.lt_succ_self _)
  have h2 : B ^ (2 * k) ≤ B ^ (2 * (k + 1)) := Nat.pow_le_pow_right B_pos (by omega)
  exact FB.fits (k := 2 * (k + 1) + 1) h h1 (by omega) (by omega)
theorem partB.step {k : Nat} {q p : Rat} {a : Int} (h : partB k q) (ha : a.natAbs ≤ 1048576) (hp : FB p 4611686018427387904 4611686018427387904) : partB (k + 1) (q + (a : Rat) * p) := by
  have h1 := (FB.int a).mul hp
  have h2 := FB.add h h1
  have hB := B_pow_pos (2 * k)
  refine h2.mono ?_ ?_
  · rw [B_pow2 (k + 1), B_pow2 k]
    have e2 : a.natAbs * 4611686018427387904 * B ^ (2 * k) ≤ B ^ (2 * k) * 4835703278458516698824704 := by
      rw [Nat.mul_comm]
      exact Nat.mul_le_mul_left _ (by omega)
    have e3 : B ^ (2 * k) * 18446744073709551616 * 4611686018427387904 = B ^ (2 * k) * 85070591730234615865843651857942052864 := by rw [Nat.mul_assoc]
    have e4 : B ^ (2 * k) * 18446744073709551616 * 18446744073709551616 = B ^ (2 * k) * 340282366920938463463374607431768211456 := by rw [Nat.mul_assoc]
    rw [e3, e4]
    clear e3 e4
    generalize B ^ (2 * k) = b at *
    generalize a.natAbs * 4611686018427387904 * b = y at *
    omega
  · rw [B_pow2 k, Nat.one_mul]; exact Nat.mul_le_mul_left _ (by omega)
theorem partB.skip {k : Nat} {q : Rat} (h : partB k q) : partB (k + 1) q := by
  have hB := B_pow_pos (2 * k)
  refine FB.mono h ?_ ?_
  · exact Nat.pow_le_pow_right B_pos (by omega)
  · exact Nat.pow_le_pow_right B_pos (by omega)
theorem rat_nonneg_iff (q : Rat) : decide (q.num.sign < 0) = decide (q < 0) := by
  rw [Bool.eq_iff_iff, decide_eq_true_iff, decide_eq_true_iff, Int.sign_neg_iff]
  have := Rat.num_nonneg (q := q)
  constructor
  · intro h
    refine Rat.not_le.1 fun hh => ?_
    have := this.2 hh; omega
  · intro h
    refine Int.not_le.1 fun hh => ?_
    exact Rat.not_le.2 h (this.1 hh)
def RV.q (x : RV) : Rat := Rat.divInt x.num x.den
theorem ratB_spec {x : RV} (h : ratB x = true) : 1 ≤ x.den ∧ x.den ≤ 4611686018427387904 ∧ -4611686018427387904 ≤ x.num ∧ x.num ≤ 4611686018427387904 := by
  simp only [ratB, winB, Bool.and_eq_true, decide_eq_true_eq] at h
  omega
def qz : List Tr := [i64 0, i64 0, .sl false [], .bool false, .sl false [], .bool false]
end YtihgdplbehempaaGreat
end Go.Vm
end
section
set_option linter.unusedSimpArgs false
namespace Go.Vm
open Go Go.Proofs Go.Whole Go.Simplex
namespace YtihgdplbehempaaGreat
open Go.Proofs.Tryz
def fullR (r : Row) : List Int := r.coefs ++ [r.const]
def entR (r : Row) (k : Nat) : Int := (fullR r).getD k 0
def colR (rows : List Row) (k : Nat) : List Rat := rows.map fun r => ((entR r k : Int) : Rat)
def matL (V : Nat) (rows : List Row) (more : List (List Rat)) : List (List Rat) := (List.range (V + 1)).map fun i => colR rows i ++ more.map (fun c => c.getD i 0)
def unitL (V : Nat) (x : Int) : List Rat := List.replicate V 0 ++ [(x : Rat)]
theorem rc0 : ((0 : Int) : Rat) = 0 := rfl
theorem rc1 : ((1 : Int) : Rat) = 1 := rfl
theorem entR_low {r : Row} {V k : Nat} (h : r.coefs.length = V) (hk : k < V) : entR r k = r.coefs.getD k 0 := by
  simp only [entR, fullR, List.getD_eq_getElem?_getD]
  rw [List.getElem?_append_left (by omega)]
theorem entR_top {r : Row} {V : Nat} (h : r.coefs.length = V) : entR r V = r.const := by
  simp only [entR, fullR, List.getD_eq_getElem?_getD]
  rw [List.getElem?_append_right (by omega)]
  simp [h]
theorem matL_len (V : Nat) (rows : List Row) (more : List (List Rat)) : (matL V rows more).length = V + 1 := by simp [matL]
theorem matL_row {V : Nat} {rows : List Row} {more : List (List Rat)} : ∀ r ∈ matL V rows more, r.length = rows.length + more.length := by
  intro r hr
  simp only [matL, List.mem_map, List.mem_range] at hr
  obtain ⟨i, _, rfl⟩ := hr
  simp [colR]
theorem matL_head (V : Nat) (rows : List Row) (more : List (List Rat)) : ((matL V rows more).headD []).length = rows.length + more.length := by
  have h := matL_len V rows more
  cases hm : matL V rows more with
  | nil => rw [hm] at h; simp at h
  | cons a l => exact matL_row a (by rw [hm]; simp)
theorem matL_get {V : Nat} {rows : List Row} {more : List (List Rat)} {k : Nat} (hk : k ≤ V) : (matL V rows more).getD k [] = colR rows k ++ more.map (fun c => c.getD k 0) := by
  have : k < V + 1 := by omega
  simp [matL, List.getD_eq_getElem?_getD, this]
theorem unitL_low {V k : Nat} {x : Int} (hk : k < V) : (unitL V x).getD k 0 = 0 := by
  simp [unitL, List.getD_eq_getElem?_getD, List.getElem?_append, hk]
theorem unitL_top {V : Nat} {x : Int} : (unitL V x).getD V 0 = (x : Rat) := by
  simp [unitL, List.getD_eq_getElem?_getD, List.getElem?_append]
theorem unitL_len (V : Nat) (x : Int) : (unitL V x).length = V + 1 := by simp [unitL]
theorem sumN_front (m : Nat) (f : Nat → Rat) : sumN (m + 1) f = f 0 + sumN m (fun i => f (i + 1)) := by
  induction m with
  | zero => simp only [sumN]; grind
  | succ m ih =>
    have : sumN (m + 1 + 1) f = sumN (m + 1) f + f (m + 1) := rfl
    rw [this, ih]
    simp only [sumN]; grind
def combQ (k : Nat) : List Row → List Rat → Rat
  | r :: rows, y :: ys => ((entR r k : Int) : Rat) * y + combQ k rows ys
  | _, _ => 0
theorem sum_comb (k : Nat) : ∀ (rows : List Row) (ys : List Rat), rows.length ≤ ys.length → sumN rows.length (fun j => (colR rows k).getD j 0 * ys.getD j 0) = combQ k rows (ys.take rows.length)
  | [], ys, _ => by simp [sumN, combQ]
  | r :: rows, [], h => by simp at h
  | r :: rows, y :: ys, h => by
    have ih := sum_comb k rows ys (by simpa using h)
    rw [List.length_cons, sumN_front]
    simp only [colR, List.map_cons, List.getD_cons_zero, List.getD_cons_succ, List.take_succ_cons, combQ]
    rw [← ih]; rfl
theorem comb_scale (k : Nat) (t : Rat) : ∀ (rows : List Row) (ys : List Rat), combQ k rows (ys.map (· * t)) = combQ k rows ys * t
  | [], ys => by cases ys <;> simp only [List.map, combQ] <;> grind
  | r :: rows, [] => by simp only [List.map, combQ]; grind
  | r :: rows, y :: ys => by simp only [List.map, combQ]; rw [comb_scale k t rows ys]; grind
def combI (k : Nat) : List Row → List Nat → Int
  | r :: rows, m :: ms => m * entR r k + combI k rows ms
  | _, _ => 0
theorem comb_cast (k : Nat) : ∀ (rows : List Row) (ms : List Nat), ((combI k rows ms : Int) : Rat) = combQ k rows (ms.map fun m => ((m : Nat) : Rat))
  | [], ms => by cases ms <;> rfl
  | r :: rows, [] => rfl
  | r :: rows, m :: ms => by
    simp only [List.map, combQ, combI, Rat.intCast_add, Rat.intCast_mul, comb_cast k rows ms]
    have : ((m : Int) : Rat) = (m : Rat) := rfl
    rw [this]; grind
theorem lsum_coord {V : Nat} : ∀ (rows : List Row) (ms : List Nat) (out : List WI) (last : WI), out.length = V → (∀ r ∈ rows, r.coefs.length = V) →
    (∀ k, k < V → ((lsumR out last rows ms).1.map WI.z).getD k 0 = (out.map WI.z).getD k 0 + combI k rows ms) ∧ (lsumR out last rows ms).2.z = last.z + combI V rows ms
  | [], ms, out, last, _, _ => by cases ms <;> simp [lsumR, combI]
  | r :: rows, [], out, last, _, _ => by simp [lsumR, combI]
  | r :: rows, m :: ms, out, last, ho, hr => by
    have hrl := hr r (by simp)
    simp only [lsumR, combI]
    split
    · rename_i h0
      obtain ⟨h1, h2⟩ := lsum_coord rows ms out last ho (fun x hx => hr x (by simp [hx]))
      subst h0
      refine ⟨fun k hk => by rw [h1 k hk]; simp, by rw [h2]; simp⟩
    · obtain ⟨h1, h2⟩ := lsum_coord rows ms (addW out r.coefs m) ⟨true, last.z + m * r.const⟩ (by simp [addW, ho, hrl]) (fun x hx => hr x (by simp [hx]))
      refine ⟨fun k hk => ?_, ?_⟩
      · rw [h1 k hk, entR_low hrl hk]
        have : ((addW out r.coefs m).map WI.z).getD k 0 = (out.map WI.z).getD k 0 + m * r.coefs.getD k 0 := by
          have h3 : k < out.length := by omega
          have h4 : k < r.coefs.length := by omega
          simp [addW, List.getD_eq_getElem?_getD, List.getElem?_zipWith, h3, h4]
        rw [this]; omega
      · rw [h2, entR_top hrl]; simp only; omega
theorem start_coord {V : Nat} (rows : List Row) (ms : List Nat) (hr : ∀ r ∈ rows, r.coefs.length = V) :
    (∀ k, k < V → ((lsumR (List.replicate V zW) ⟨true, 0⟩ rows ms).1.map WI.z).getD k 0 = combI k rows ms) ∧ (lsumR (List.replicate V zW) ⟨true, 0⟩ rows ms).2.z = combI V rows ms := by
  obtain ⟨h1, h2⟩ := lsum_coord rows ms (List.replicate V zW) ⟨true, 0⟩ (by simp) hr
  refine ⟨fun k hk => ?_, by rw [h2]; simp⟩
  rw [h1 k hk]
  have : ((List.replicate V zW).map WI.z).getD k 0 = 0 := by
    simp [List.getD_eq_getElem?_getD, hk]
  rw [this]; simp
theorem contra_of {V : Nat} {rows : List Row} {ms : List Nat} (hr : ∀ r ∈ rows, r.coefs.length = V) (h0 : ∀ k, k < V → combI k rows ms = 0) (h1 : combI V rows ms < 0) :
    contraW (lsumR (List.replicate V zW) ⟨true, 0⟩ rows ms).1 (lsumR (List.replicate V zW) ⟨true, 0⟩ rows ms).2 = true := by
  obtain ⟨c1, c2⟩ := start_coord rows ms hr
  have hl := lsumR_len rows ms (List.replicate V zW) ⟨true, 0⟩ (by simp) hr
  generalize lsumR (List.replicate V zW) ⟨true, 0⟩ rows ms = q at *
  simp only [contraW, Bool.and_eq_true, decide_eq_true_eq, List.all_eq_true]
  refine ⟨by omega, fun x hx => ?_⟩
  obtain ⟨k, hk, rfl⟩ := List.mem_iff_getElem.1 hx
  have := c1 k (by omega)
  rw [h0 k (by omega)] at this
  simpa [List.getD_eq_getElem?_getD, hk] using this
theorem eqW_of (sc : Nat) : ∀ (out : List WI) (l : List Int), out.length = l.length → (∀ k, k < l.length → (out.map WI.z).getD k 0 = sc * l.getD k 0) → eqW out l sc = true
  | [], [], _, _ => rfl
  | [], _ :: _, h, _ => by simp at h
  | _ :: _, [], h, _ => by simp at h
  | x :: out, a :: l, hl, h => by
    simp only [eqW, Bool.and_eq_true, decide_eq_true_eq]
    refine ⟨by simpa using h 0 (by simp), eqW_of sc out l (by simpa using hl) fun k hk => ?_⟩
    simpa using h (k + 1) (by simpa using hk)
theorem proves_of {V : Nat} {rows : List Row} {row : Row} {ms : List Nat} {sc : Nat} (hr : ∀ r ∈ rows, r.coefs.length = V) (hrow : row.coefs.length = V) (hsc : sc ≠ 0)
    (h0 : ∀ k, k < V → combI k rows ms = sc * entR row k) (h1 : combI V rows ms ≤ sc * row.const) : lprovW (lsumR (List.replicate V zW) ⟨true, 0⟩ rows ms) row sc = true := by
  obtain ⟨c1, c2⟩ := start_coord rows ms hr
  have hl := lsumR_len rows ms (List.replicate V zW) ⟨true, 0⟩ (by simp) hr
  generalize lsumR (List.replicate V zW) ⟨true, 0⟩ rows ms = q at *
  unfold lprovW
  rw [if_neg hsc, Bool.and_eq_true]
  refine ⟨eqW_of sc _ _ (by omega) fun k hk => ?_, by rw [decide_eq_true_eq]; omega⟩
  rw [c1 k (by omega), h0 k (by omega), entR_low hrow (by omega)]
theorem lcmN_dvd : ∀ (l : List Nat) (o d : Nat), o ∣ d → (∀ x ∈ l, x ∣ d) → lcmN o l ∣ d
  | [], o, d, h, _ => h
  | x :: l, o, d, h, hl => lcmN_dvd l (Nat.lcm o x) d (Nat.lcm_dvd h (hl x (by simp))) fun y hy => hl y (by simp [hy])
theorem dvd_lcmN : ∀ (l : List Nat) (o : Nat), o ∣ lcmN o l ∧ ∀ x ∈ l, x ∣ lcmN o l
  | [], o => ⟨Nat.dvd_refl o, fun x hx => by simp at hx⟩
  | x :: l, o => by
    obtain ⟨h1, h2⟩ := dvd_lcmN l (Nat.lcm o x)
    refine ⟨Nat.dvd_trans (Nat.dvd_lcm_left o x) h1, fun y hy => ?_⟩
    rcases List.mem_cons.1 hy with rfl | hy
    · exact Nat.dvd_trans (Nat.dvd_lcm_right o y) h1
    · exact h2 y hy
theorem lcmN_pos : ∀ (l : List Nat) (o : Nat), 0 < o → (∀ x ∈ l, 0 < x) → 0 < lcmN o l
  | [], o, h, _ => h
  | x :: l, o, h, hl => lcmN_pos l (Nat.lcm o x) (Nat.lcm_pos h (hl x (by simp))) fun y hy => hl y (by simp [hy])
def lcmD (l : List Rat) : Nat := lcmN 1 (l.map Rat.den)
theorem lcmD_pos (l : List Rat) : 0 < lcmD l := lcmN_pos _ _ (by decide) fun x hx => by
  obtain ⟨y, _, rfl⟩ := List.mem_map.1 hx
  exact y.den_pos
theorem dvd_lcmD {l : List Rat} {x : Rat} (hx : x ∈ l) : x.den ∣ lcmD l := (dvd_lcmN _ 1).2 _ (List.mem_map.2 ⟨x, hx, rfl⟩)
def intZ (L : Nat) (x : Rat) : Int := x.num * ((L / x.den : Nat) : Int)
theorem rat_mul_den (x : Rat) : x * (x.den : Rat) = (x.num : Rat) := by
  have h1 : x = (x.num : Rat) / ((x.den : Int) : Rat) := by rw [← Rat.divInt_eq_div]; exact (Rat.num_divInt_den x).symm
  have h0 : ((x.den : Int) : Rat) ≠ 0 := by
    have := x.den_pos
    simp; omega
  have h2 : (x.den : Rat) = ((x.den : Int) : Rat) := rfl
  have h3 := Rat.mul_inv_cancel _ h0
  rw [h2]
  generalize ((x.den : Int) : Rat) = D at *
  rw [Rat.div_def] at h1
  grind
theorem intZ_val {L : Nat} {x : Rat} (h : x.den ∣ L) : ((intZ L x : Int) : Rat) = x * (L : Rat) := by
  obtain ⟨e, rfl⟩ := h
  have : x.den * e / x.den = e := Nat.mul_div_cancel_left _ x.den_pos
  have h1 := rat_mul_den x
  unfold intZ
  rw [this, Rat.intCast_mul, ← h1]
  have h2 : (((x.den * e : Nat)) : Rat) = (x.den : Rat) * (e : Rat) := by
    have : (((x.den * e : Nat) : Int) : Rat) = ((x.den : Int) : Rat) * ((e : Int) : Rat) := by rw [← Rat.intCast_mul]; congr 1
    exact this
  have h3 : ((e : Int) : Rat) = (e : Rat) := rfl
  rw [h2, h3]; grind
def intsZ (l : List Rat) : List Int := l.map (intZ (lcmD l))
theorem intZ_nonneg {L : Nat} {x : Rat} (h : 0 ≤ x) : 0 ≤ intZ L x := Int.mul_nonneg (Rat.num_nonneg.2 h) (Int.natCast_nonneg _)
def msL (l : List Rat) : List Nat := (intsZ l).map Int.toNat
theorem msL_len (l : List Rat) : (msL l).length = l.length := by simp [msL, intsZ]
theorem msL_val {l : List Rat} (h : ∀ x ∈ l, 0 ≤ x) : (msL l).map (fun m => ((m : Nat) : Rat)) = l.map (· * (lcmD l : Rat)) := by
  unfold msL intsZ
  rw [List.map_map, List.map_map]
  refine List.map_congr_left fun x hx => ?_
  have h1 := intZ_val (dvd_lcmD hx)
  have h2 : 0 ≤ intZ (lcmD l) x := intZ_nonneg (h x hx)
  rw [← h1]
  have h3 : ((((intZ (lcmD l) x).toNat : Nat) : Int) : Rat) = ((intZ (lcmD l) x : Int) : Rat) := by rw [Int.toNat_of_nonneg h2]
  exact h3
theorem intB_low {x : Rat} {d : Int} {N : Nat} (hd : d ≠ 0) (h : IntB ((d : Rat) * x) N) : x.den ∣ d.natAbs ∧ x.num.natAbs ≤ N := by
  obtain ⟨M, h1, h2⟩ := h
  have h3 : (d * x.num : Int) = M * x.den := by
    have h4 := rat_mul_den x
    have h5 : ((d * x.num : Int) : Rat) = ((M * (x.den : Int) : Int) : Rat) := by
      rw [Rat.intCast_mul, Rat.intCast_mul, ← h1, ← h4]
      have : ((x.den : Int) : Rat) = (x.den : Rat) := rfl
      rw [this]; grind
    exact Rat.intCast_inj.1 h5
  have h6 : d.natAbs * x.num.natAbs = M.natAbs * x.den := by
    have := congrArg Int.natAbs h3
    rwa [Int.natAbs_mul, Int.natAbs_mul, Int.natAbs_natCast] at this
  have hdv : x.den ∣ d.natAbs := by
    have : x.den ∣ d.natAbs * x.num.natAbs := ⟨M.natAbs, by rw [h6, Nat.mul_comm]⟩
    exact Nat.Coprime.dvd_of_dvd_mul_right x.reduced.symm this
  refine ⟨hdv, ?_⟩
  have hle : x.den ≤ d.natAbs := Nat.le_of_dvd (by omega) hdv
  have h7 : d.natAbs * x.num.natAbs ≤ d.natAbs * M.natAbs := by
    rw [h6, Nat.mul_comm d.natAbs]; exact Nat.mul_le_mul_left _ hle
  exact Nat.le_trans (Nat.le_of_mul_le_mul_left h7 (by omega)) h2
theorem intB_FB {x : Rat} {d : Int} {N : Nat} (hd : d ≠ 0) (hN : d.natAbs ≤ N) (h : IntB ((d : Rat) * x) N) : FB x N N := by
  obtain ⟨h1, h2⟩ := intB_low hd h
  exact ⟨h2, Nat.le_trans (Nat.le_of_dvd (by omega) h1) hN⟩
theorem intZ_small {l : List Rat} {d : Int} {N : Nat} (hd : d ≠ 0) (h : ∀ x ∈ l, IntB ((d : Rat) * x) N) : ∀ z ∈ intsZ l, z.natAbs ≤ N := by
  intro z hz
  obtain ⟨x, hx, rfl⟩ := List.mem_map.1 hz
  have hL : lcmD l ∣ d.natAbs := lcmN_dvd _ _ _ (Nat.one_dvd _) fun y hy => by
    obtain ⟨q, hq, rfl⟩ := List.mem_map.1 hy
    exact (intB_low hd (h q hq)).1
  obtain ⟨e, he⟩ := hL
  obtain ⟨M, h1, h2⟩ := h x hx
  have h3 := intZ_val (dvd_lcmD hx)
  have h4 : (intZ (lcmD l) x * (e : Int)).natAbs = M.natAbs := by
    have hs : d = lcmD l * e ∨ d = -((lcmD l : Int) * e) := by
      rcases Int.natAbs_eq d with h | h
      · left; rw [h, he]; rfl
      · right; rw [h, he]; rfl
    have hc1 : (((lcmD l : Int) * (e : Int) : Int) : Rat) = (lcmD l : Rat) * (e : Rat) := by rw [Rat.intCast_mul]; rfl
    have hc2 : ((intZ (lcmD l) x * (e : Int) : Int) : Rat) = x * (lcmD l : Rat) * (e : Rat) := by rw [Rat.intCast_mul, h3]; rfl
    rcases hs with hs | hs
    · have : ((intZ (lcmD l) x * (e : Int) : Int) : Rat) = ((M : Int) : Rat) := by
        rw [hc2, ← h1, hs, hc1]; grind
      rw [Rat.intCast_inj.1 this]
    · have : ((intZ (lcmD l) x * (e : Int) : Int) : Rat) = ((-M : Int) : Rat) := by
        rw [hc2, Rat.intCast_neg, ← h1, hs, Rat.intCast_neg, hc1]; grind
      rw [Rat.intCast_inj.1 this, Int.natAbs_neg]
  have he0 : e ≠ 0 := by
    intro e0; subst e0; simp at he; exact hd he
  rw [Int.natAbs_mul, Int.natAbs_natCast] at h4
  have : (intZ (lcmD l) x).natAbs ≤ (intZ (lcmD l) x).natAbs * e := Nat.le_mul_of_pos_right _ (by omega)
  omega
theorem dot_sum : ∀ (l : List Int) (u : List Rat), u.length = l.length → sumN l.length (fun k => u.getD k 0 * ((l.getD k 0 : Int) : Rat)) = dotQ l u
  | [], [], _ => rfl
  | [], _ :: _, h => by simp at h
  | _ :: _, [], h => by simp at h
  | c :: l, x :: u, h => by
    rw [List.length_cons, sumN_front]
    simp only [List.getD_cons_zero, List.getD_cons_succ, dotQ]
    rw [dot_sum l u (by simpa using h)]; grind
theorem dotQ_scale (t : Rat) : ∀ (l : List Int) (p : List Rat), dotQ l (p.map (· * t)) = dotQ l p * t
  | [], p => by cases p <;> simp only [List.map, dotQ] <;> grind
  | c :: l, [] => by simp only [List.map, dotQ]; grind
  | c :: l, x :: p => by simp only [List.map, dotQ]; rw [dotQ_scale t l p]; grind
theorem dotQ_snoc : ∀ (l : List Int) (c : Int) (p : List Rat), p.length = l.length + 1 → dotQ (l ++ [c]) p = dotQ l (p.take l.length) + (c : Rat) * p.getD l.length 0
  | [], c, [x], _ => by simp [dotQ]; grind
  | [], c, [], h => by simp at h
  | [], c, _ :: _ :: _, h => by simp at h
  | a :: l, c, [], h => by simp at h
  | a :: l, c, x :: p, h => by
    have ih := dotQ_snoc l c p (by simpa using h)
    simp only [List.cons_append, dotQ, List.length_cons, List.take_succ_cons, List.getD_cons_succ]
    rw [ih]; grind
theorem full_len {r : Row} {V : Nat} (h : r.coefs.length = V) : (fullR r).length = V + 1 := by simp [fullR, h]
theorem full_dot {r : Row} {V : Nat} {u : List Rat} (h : r.coefs.length = V) (hu : u.length = V + 1) : dotQ (fullR r) u = dotQ r.coefs (u.take V) + (r.const : Rat) * u.getD V 0 := by
  unfold fullR
  rw [dotQ_snoc _ _ _ (by omega), h]
theorem full_point {r : Row} {V : Nat} {u : List Rat} (h : r.coefs.length = V) (hu : u.length = V + 1) (h0 : u.getD V 0 ≠ 0) : rowQ r ((u.take V).map (· * (u.getD V 0)⁻¹)) = dotQ (fullR r) u * (u.getD V 0)⁻¹ := by
  unfold rowQ
  rw [dotQ_scale, full_dot h hu]
  have := Rat.mul_inv_cancel _ h0
  grind
theorem col_dot {V : Nat} {rows : List Row} {more : List (List Rat)} {u : List Rat} (hu : u.length = V + 1) {j : Nat} {r : Row} (hj : rows[j]? = some r) (hr : r.coefs.length = V) :
    sumN (V + 1) (fun k => u.getD k 0 * ((matL V rows more).getD k []).getD j 0) = dotQ (fullR r) u := by
  rw [← dot_sum _ _ (by rw [full_len hr, hu]), full_len hr]
  refine sumN_congr fun k hk => ?_
  rw [matL_get (by omega)]
  have hjl := (List.getElem?_eq_some_iff.1 hj).1
  congr 1
  rw [List.getD_eq_getElem?_getD, List.getElem?_append_left (by simpa [colR] using hjl)]
  simp [colR, hj, entR]
theorem more_dot {V : Nat} {rows : List Row} {c u : List Rat} : sumN (V + 1) (fun k => u.getD k 0 * ((matL V rows [c]).getD k []).getD rows.length 0) = sumN (V + 1) (fun k => u.getD k 0 * c.getD k 0) := by
  refine sumN_congr fun k hk => ?_
  rw [matL_get (by omega)]
  congr 1
  rw [List.getD_eq_getElem?_getD, List.getElem?_append_right (by simp [colR])]
  simp [colR]
theorem unit_dot {V : Nat} {x : Int} {u : List Rat} : sumN (V + 1) (fun k => u.getD k 0 * (unitL V x).getD k 0) = u.getD V 0 * (x : Rat) := by
  show sumN V _ + u.getD V 0 * (unitL V x).getD V 0 = _
  rw [sumN_congr (g := fun _ => 0) (fun k hk => by rw [unitL_low hk]; grind), sumN_zero, unitL_top]
  grind
theorem row_dot {V : Nat} {row : Row} {u : List Rat} (hu : u.length = V + 1) (hr : row.coefs.length = V) : sumN (V + 1) (fun k => u.getD k 0 * ((fullR row).map (fun z : Int => (z : Rat))).getD k 0) = dotQ (fullR row) u := by
  rw [← dot_sum _ _ (by rw [full_len hr, hu]), full_len hr]
  refine sumN_congr fun k hk => ?_
  congr 1
  simp only [List.getD_eq_getElem?_getD, List.getElem?_map]
  cases (fullR row)[k]? <;> rfl
theorem cols_comb {V : Nat} {rows : List Row} {y : List Rat} {k : Nat} (hk : k ≤ V) (hy : y.length = rows.length) : sumN rows.length (fun j => ((matL V rows []).getD k []).getD j 0 * y.getD j 0) = combQ k rows y := by
  rw [matL_get hk]
  simp only [List.map_nil, List.append_nil]
  rw [sum_comb k rows y (by omega), List.take_of_length_le (by omega)]
theorem cols_comb1 {V : Nat} {rows : List Row} {c y : List Rat} {k : Nat} (hk : k ≤ V) (hy : y.length = rows.length + 1) :
    sumN (rows.length + 1) (fun j => ((matL V rows [c]).getD k []).getD j 0 * y.getD j 0) = combQ k rows (y.take rows.length) + c.getD k 0 * y.getD rows.length 0 := by
  rw [matL_get hk]
  show sumN rows.length _ + _ = _
  have h1 : (colR rows k).length = rows.length := by simp [colR]
  rw [sumN_congr (g := fun j => (colR rows k).getD j 0 * y.getD j 0) (fun j hj => by
    congr 1
    rw [List.getD_eq_getElem?_getD, List.getElem?_append_left (by omega), ← List.getD_eq_getElem?_getD]), sum_comb k rows y (by omega)]
  congr 1
  show (colR rows k ++ [c.getD k 0]).getD rows.length 0 * _ = _
  congr 1
  rw [List.getD_eq_getElem?_getD, List.getElem?_append_right (by omega), h1, Nat.sub_self]
  rfl
end YtihgdplbehempaaGreat
end Go.Vm
end
section
set_option linter.unusedSimpArgs false
namespace Go.Vm
open Go Go.Proofs Go.Whole Go.Simplex
namespace YtihgdplbehempaaGreat
open Go.Proofs.Tryz
def RightA (m : List (List Rat)) (rhs : List Rat) (ans : List Rat ⊕ List Rat) : Prop := match ans with
  | .inl y => y.length = (m.headD []).length ∧ (∀ j, j < (m.headD []).length → 0 ≤ y.getD j 0) ∧ ∀ k, k < m.length → sumN (m.headD []).length (fun j => (m.getD k []).getD j 0 * y.getD j 0) = rhs.getD k 0
  | .inr u => u.length = m.length ∧ (∀ j, j < (m.headD []).length → 0 ≤ sumN m.length (fun k => u.getD k 0 * (m.getD k []).getD j 0)) ∧ sumN m.length (fun k => u.getD k 0 * rhs.getD k 0) < 0
def ansL (ans : List Rat ⊕ List Rat) : List Rat := match ans with | .inl y => y | .inr u => u
def AnsB (ans : List Rat ⊕ List Rat) (N : Nat) : Prop := ∃ d : Int, d ≠ 0 ∧ d.natAbs ≤ N ∧ ∀ x ∈ ansL ans, IntB ((d : Rat) * x) N
abbrev maxV : Nat := 4611686018427387904
def withinQ (q : Rat) : Bool := decide (q.num.natAbs ≤ maxV) && decide (q.den ≤ maxV)
def pointOf (l : List Rat) (b : Rat) : Option (List Rat) := if (l.map (· * b⁻¹)).all withinQ then some (l.map (· * b⁻¹)) else none
def multsOf (l : List Rat) : Option (List Nat) := if (intsZ l).all (fun z => decide (z.natAbs ≤ maxV)) then some (msL l) else none
inductive SOut where
  | pt (p : List Rat)
  | ml (ms : List Nat)
  | lim
def solveOf (V : Nat) (ans : List Rat ⊕ List Rat) : SOut := match ans with
  | .inl y => match multsOf y with | some ms => .ml ms | none => .lim
  | .inr u => match pointOf (u.take V) (u.getD V 0) with | some p => .pt p | none => .lim
def modestB (V : Nat) (rows : List Row) : Bool := rows.all (fun r => (r.const :: r.coefs).all fun c => decide (-1000 ≤ c) && decide (c ≤ 1000)) && decide (V ≤ 4)
def SolveOk (V : Nat) (rows : List Row) : SOut → Prop
  | .pt p => p.length = V ∧ p.all withinQ = true ∧ ∀ r ∈ rows, 0 ≤ rowQ r p
  | .ml ms => ms.length = rows.length ∧ ms ≠ [] ∧ (∀ m ∈ ms, m ≤ maxV) ∧ contraW (lsumR (List.replicate V zW) ⟨true, 0⟩ rows ms).1 (lsumR (List.replicate V zW) ⟨true, 0⟩ rows ms).2 = true
  | .lim => modestB V rows = false
theorem getD_mem {l : List Rat} {k : Nat} (hk : k < l.length) : l.getD k 0 ∈ l := by
  rw [List.getD_eq_getElem?_getD, List.getElem?_eq_getElem hk]; exact List.getElem_mem hk
theorem all_nonneg {l : List Rat} {n : Nat} (hl : l.length = n) (h : ∀ j, j < n → 0 ≤ l.getD j 0) : ∀ x ∈ l, 0 ≤ x := by
  intro x hx
  obtain ⟨k, hk, rfl⟩ := List.mem_iff_getElem.1 hx
  have := h k (by omega)
  rwa [List.getD_eq_getElem?_getD, List.getElem?_eq_getElem hk] at this
theorem point_small {d : Int} {N : Nat} {x b : Rat} (hd : d ≠ 0) (hx : IntB ((d : Rat) * x) N) (hb : IntB ((d : Rat) * b) N) (h0 : b ≠ 0) : (x * b⁻¹).num.natAbs ≤ N ∧ (x * b⁻¹).den ≤ N := by
  obtain ⟨B', hb1, hb2⟩ := hb
  have hdq : (d : Rat) ≠ 0 := fun h => hd (Rat.intCast_inj.1 (by rw [h]; rfl))
  have hB0 : B' ≠ 0 := by
    intro h; subst h
    rcases Rat.mul_eq_zero.1 (hb1.trans rc0) with h | h
    · exact hdq h
    · exact h0 h
  have h1 : (B' : Rat) * (x * b⁻¹) = (d : Rat) * x := by
    rw [← hb1]
    have := Rat.mul_inv_cancel _ h0
    grind
  have h2 : IntB ((B' : Rat) * (x * b⁻¹)) N := by rw [h1]; exact hx
  obtain ⟨h3, h4⟩ := intB_low hB0 h2
  exact ⟨h4, Nat.le_trans (Nat.le_of_dvd (by omega) h3) hb2⟩
theorem pointOf_none {l u : List Rat} {b : Rat} {N : Nat} (hN : N ≤ maxV) (hsub : ∀ x ∈ l, x ∈ u) (hb : b ∈ u) (h0 : b ≠ 0) (hB : ∃ d : Int, d ≠ 0 ∧ d.natAbs ≤ N ∧ ∀ x ∈ u, IntB ((d : Rat) * x) N) : pointOf l b ≠ none := by
  obtain ⟨d, hd, hd2, hI⟩ := hB
  unfold pointOf
  rw [if_pos]
  · exact fun h => nomatch h
  · rw [List.all_eq_true]
    intro q hq
    obtain ⟨x, hx, rfl⟩ := List.mem_map.1 hq
    obtain ⟨h1, h2⟩ := point_small hd (hI x (hsub x hx)) (hI b hb) h0
    simp only [withinQ, Bool.and_eq_true, decide_eq_true_eq]
    exact ⟨Nat.le_trans h1 hN, Nat.le_trans h2 hN⟩
theorem multsOf_none {l : List Rat} {N : Nat} (hN : N ≤ maxV) (hB : ∃ d : Int, d ≠ 0 ∧ ∀ x ∈ l, IntB ((d : Rat) * x) N) : multsOf l ≠ none := by
  obtain ⟨d, hd, hI⟩ := hB
  unfold multsOf
  rw [if_pos]
  · exact fun h => nomatch h
  · rw [List.all_eq_true]
    intro z hz
    have := intZ_small hd hI z hz
    simp only [decide_eq_true_eq]; omega
theorem multsOf_some {l : List Rat} {ms : List Nat} (hl : ∀ x ∈ l, 0 ≤ x) (h : multsOf l = some ms) : ms = msL l ∧ ms.length = l.length ∧ (∀ m ∈ ms, m ≤ maxV) ∧ ms.map (fun m => ((m : Nat) : Rat)) = l.map (· * (lcmD l : Rat)) := by
  unfold multsOf at h
  split at h
  · rename_i ha
    injection h with h
    subst h
    refine ⟨rfl, msL_len l, fun m hm => ?_, msL_val hl⟩
    obtain ⟨z, hz, rfl⟩ := List.mem_map.1 hm
    have := List.all_eq_true.1 ha z hz
    simp only [decide_eq_true_eq] at this
    omega
  · cases h
theorem natQ_pos {n : Nat} (h : 0 < n) : (0 : Rat) < (n : Rat) := by
  have : ((0 : Int) : Rat) < ((n : Int) : Rat) := Rat.intCast_lt_intCast.2 (by omega)
  exact this
theorem intQ_inj {a b : Int} (h : (a : Rat) = (b : Rat)) : a = b := Rat.intCast_inj.1 h
theorem comb_of {rows : List Row} {y : List Rat} {ms : List Nat} {L : Rat} (h : ms.map (fun m => ((m : Nat) : Rat)) = y.map (· * L)) (k : Nat) : ((combI k rows ms : Int) : Rat) = combQ k rows y * L := by
  rw [comb_cast, h, comb_scale]
theorem solve_refutes {V : Nat} {rows : List Row} {y : List Rat} {ms : List Nat} {L : Rat} (hr : ∀ r ∈ rows, r.coefs.length = V) (hL : 0 < L) (h : ms.map (fun m => ((m : Nat) : Rat)) = y.map (· * L))
    (h0 : ∀ k, k < V → combQ k rows y = 0) (h1 : combQ V rows y = -1) : contraW (lsumR (List.replicate V zW) ⟨true, 0⟩ rows ms).1 (lsumR (List.replicate V zW) ⟨true, 0⟩ rows ms).2 = true := by
  refine contra_of hr (fun k hk => ?_) ?_
  · refine intQ_inj ?_
    rw [comb_of h, h0 k hk, rc0]; grind
  · have := comb_of (rows := rows) h V
    rw [h1] at this
    refine Rat.intCast_lt_intCast.1 ?_
    rw [this, rc0]; grind
theorem solve_ok {V : Nat} {rows : List Row} {ans : List Rat ⊕ List Rat} (hr : ∀ r ∈ rows, r.coefs.length = V) (ha : RightA (matL V rows []) (unitL V (-1)) ans) (hb : modestB V rows = true → AnsB ans maxV) : SolveOk V rows (solveOf V ans) := by
  unfold RightA at ha
  rw [matL_head, matL_len] at ha
  simp only [List.length_nil, Nat.add_zero] at ha
  cases ans with
  | inl y =>
    obtain ⟨a1, a2, a3⟩ := ha
    have hy0 := all_nonneg a1 a2
    have hL := natQ_pos (lcmD_pos y)
    have e0 : ∀ k, k < V → combQ k rows y = 0 := fun k hk => by
      rw [← cols_comb (V := V) (k := k) (by omega) a1, a3 k (by omega), unitL_low hk]
    have e1 : combQ V rows y = -1 := by
      rw [← cols_comb (Nat.le_refl _) a1, a3 V (by omega), unitL_top]; rfl
    simp only [solveOf]
    cases hm : multsOf y with
    | none =>
      simp only [SolveOk]
      rw [Bool.eq_false_iff]
      intro hmod
      obtain ⟨d, hd, _, hI⟩ := hb hmod
      exact multsOf_none (Nat.le_refl _) ⟨d, hd, hI⟩ hm
    | some ms =>
      obtain ⟨_, b2, b3, b4⟩ := multsOf_some hy0 hm
      refine ⟨b2.trans a1, fun e => ?_, b3, solve_refutes hr hL b4 e0 e1⟩
      subst e
      have : y = [] := List.eq_nil_of_length_eq_zero b2.symm
      subst this
      have : combQ V rows [] = 0 := by cases rows <;> rfl
      rw [this] at e1
      exact absurd e1 (by grind)
  | inr u =>
    obtain ⟨a1, a2, a3⟩ := ha
    rw [unit_dot] at a3
    have hpos : 0 < u.getD V 0 := by
      have : ((-1 : Int) : Rat) = -1 := rfl
      rw [this] at a3; grind
    have hne : u.getD V 0 ≠ 0 := fun h => by rw [h] at hpos; exact absurd hpos (by grind)
    simp only [solveOf]
    cases hp : pointOf (u.take V) (u.getD V 0) with
    | none =>
      simp only [SolveOk]
      rw [Bool.eq_false_iff]
      intro hmod
      exact pointOf_none (Nat.le_refl _) (fun x hx => List.mem_of_mem_take hx) (getD_mem (by omega)) hne (hb hmod) hp
    | some p =>
      unfold pointOf at hp
      split at hp
      · rename_i hall
        injection hp with hp
        subst hp
        refine ⟨by simp; omega, hall, fun r hr' => ?_⟩
        obtain ⟨j, hj, rfl⟩ := List.mem_iff_getElem.1 hr'
        have h2 := a2 j hj
        rw [col_dot a1 (List.getElem?_eq_getElem hj) (hr _ hr')] at h2
        rw [full_point (hr _ hr') a1 hne]
        exact Rat.mul_nonneg h2 (by have := Rat.inv_pos.2 hpos; grind)
      · cases hp
theorem not_refuted {V : Nat} {rows : List Row} {y p : List Rat} (hr : ∀ r ∈ rows, r.coefs.length = V) (hp : ∀ r ∈ rows, 0 ≤ rowQ r p) (hy : ∀ x ∈ y, 0 ≤ x) (h0 : ∀ k, k < V → combQ k rows y = 0) (h1 : combQ V rows y = -1) : False := by
  have h := solve_refutes hr (natQ_pos (lcmD_pos y)) (msL_val hy) h0 h1
  rw [contra_sound hr hp] at h
  cases h
inductive IOut where
  | cert (sc : Nat) (ms : List Nat)
  | pt (p : List Rat)
  | lim
def certOf (y : List Rat) : IOut := match multsOf (y ++ [1]) with | some l => .cert (l.getD y.length 0) (l.take y.length) | none => .lim
def ptOf (V : Nat) (u : List Rat) : IOut := match pointOf (u.take V) (u.getD V 0) with | some p => .pt p | none => .lim
def below (row : Row) : Row := ⟨!row.coefs.isEmpty, row.coefs.map (fun c => -c), -row.const - 1⟩
def ImpOk (V : Nat) (rows : List Row) (row : Row) : IOut → Prop
  | .cert sc ms => ms.length = rows.length ∧ (∀ m ∈ ms, m ≤ maxV) ∧ sc ≤ maxV ∧ lprovW (lsumR (List.replicate V zW) ⟨true, 0⟩ rows ms) row sc = true
  | .pt p => p.length = V ∧ p.all withinQ = true ∧ (∀ r ∈ rows, 0 ≤ rowQ r p) ∧ rowQ row p < 0
  | .lim => modestB V (rows ++ [row]) = false
theorem cert_ok {V : Nat} {rows : List Row} {row : Row} {y : List Rat} (hr : ∀ r ∈ rows, r.coefs.length = V) (hrow : row.coefs.length = V) (hy : y.length = rows.length) (hy0 : ∀ x ∈ y, 0 ≤ x)
    (h0 : ∀ k, k < V → combQ k rows y = (entR row k : Rat)) (h1 : combQ V rows y ≤ (row.const : Rat)) (hb : modestB V (rows ++ [row]) = true → AnsB (.inl y) maxV) : ImpOk V rows row (certOf y) := by
  have hy1 : ∀ x ∈ y ++ [1], (0 : Rat) ≤ x := fun x hx => by
    rcases List.mem_append.1 hx with hx | hx
    · exact hy0 x hx
    · rw [List.mem_singleton.1 hx]; grind
  unfold certOf
  cases hm : multsOf (y ++ [1]) with
  | none =>
    simp only [ImpOk]
    rw [Bool.eq_false_iff]
    intro hmod
    obtain ⟨d, hd, hdN, hI⟩ := hb hmod
    refine multsOf_none (Nat.le_refl _) ⟨d, hd, fun x hx => ?_⟩ hm
    rcases List.mem_append.1 hx with hx | hx
    · exact hI x hx
    · rw [List.mem_singleton.1 hx]; exact ⟨d, by grind, hdN⟩
  | some l =>
    obtain ⟨b1, b2, b3, b4⟩ := multsOf_some hy1 hm
    rw [List.length_append, List.length_singleton] at b2
    have hlen : y.length < l.length := by omega
    have hmem : l.getD y.length 0 ∈ l := by
      rw [List.getD_eq_getElem?_getD, List.getElem?_eq_getElem hlen]; exact List.getElem_mem hlen
    have hL := natQ_pos (lcmD_pos (y ++ [1]))
    have hsc : ((l.getD y.length 0 : Nat) : Rat) = (lcmD (y ++ [1]) : Rat) := by
      have h5 := congrArg (fun q => q[y.length]?) b4
      simp only [List.getElem?_map, List.getElem?_append_right (Nat.le_refl _), Nat.sub_self, List.getElem?_eq_getElem hlen] at h5
      simp only [List.getElem?_cons_zero, Option.map_some, Option.some.injEq] at h5
      rw [List.getD_eq_getElem?_getD, List.getElem?_eq_getElem hlen]
      simp only [Option.getD_some]
      rw [h5]; grind
    have hms : (l.take y.length).map (fun m => ((m : Nat) : Rat)) = y.map (· * (lcmD (y ++ [1]) : Rat)) := by
      rw [List.map_take, b4, List.map_append, List.take_left' (by simp)]
    have hsc0 : l.getD y.length 0 ≠ 0 := fun e => by
      rw [e] at hsc
      rw [← hsc] at hL
      exact absurd hL (by decide)
    refine ⟨by simp; omega, fun m hm => b3 m (List.mem_of_mem_take hm), b3 _ hmem, proves_of hr hrow hsc0 (fun k hk => ?_) ?_⟩
    · refine intQ_inj ?_
      rw [comb_of hms, h0 k hk, Rat.intCast_mul]
      have : ((((l.getD y.length 0 : Nat)) : Int) : Rat) = ((l.getD y.length 0 : Nat) : Rat) := rfl
      rw [this, hsc]; grind
    · refine Rat.intCast_le_intCast.1 ?_
      rw [comb_of hms, Rat.intCast_mul]
      have : ((((l.getD y.length 0 : Nat)) : Int) : Rat) = ((l.getD y.length 0 : Nat) : Rat) := rfl
      rw [this, hsc]
      have := Rat.mul_le_mul_of_nonneg_right h1 (show (0 : Rat) ≤ (lcmD (y ++ [1]) : Rat) by grind)
      grind
theorem pt_ok {V : Nat} {rows : List Row} {row : Row} {u : List Rat} (hr : ∀ r ∈ rows, r.coefs.length = V) (hrow : row.coefs.length = V) (hu : u.length = V + 1) (hpos : 0 < u.getD V 0)
    (h0 : ∀ r ∈ rows, 0 ≤ dotQ (fullR r) u) (h1 : ∀ p, p = (u.take V).map (· * (u.getD V 0)⁻¹) → rowQ row p < 0) (hb : modestB V (rows ++ [row]) = true → AnsB (.inr u) maxV) : ImpOk V rows row (ptOf V u) := by
  have hne : u.getD V 0 ≠ 0 := fun h => by rw [h] at hpos; exact absurd hpos (by grind)
  unfold ptOf
  cases hp : pointOf (u.take V) (u.getD V 0) with
  | none =>
    simp only [ImpOk]
    rw [Bool.eq_false_iff]
    intro hmod
    exact pointOf_none (Nat.le_refl _) (fun x hx => List.mem_of_mem_take hx) (getD_mem (by omega)) hne (hb hmod) hp
  | some p =>
    unfold pointOf at hp
    split at hp
    · rename_i hall
      injection hp with hp
      subst hp
      refine ⟨by simp; omega, hall, fun r hr' => ?_, h1 _ rfl⟩
      rw [full_point (hr _ hr') hu hne]
      exact Rat.mul_nonneg (h0 r hr') (by have := Rat.inv_pos.2 hpos; grind)
    · cases hp
theorem modest_left {V : Nat} {rows : List Row} {row : Row} (h : modestB V (rows ++ [row]) = true) : modestB V rows = true := by
  simp only [modestB, List.all_append, Bool.and_eq_true] at h ⊢
  exact ⟨h.1.1, h.2⟩
theorem dotQ_along (t : Rat) : ∀ (l : List Int) (p u : List Rat), p.length = u.length → dotQ l (List.zipWith (fun x y => x + t * y) p u) = dotQ l p + t * dotQ l u
  | [], p, u, _ => by simp only [dotQ]; grind
  | c :: l, [], [], _ => by simp only [List.zipWith, dotQ]; grind
  | c :: l, [], _ :: _, h => by simp at h
  | c :: l, _ :: _, [], h => by simp at h
  | c :: l, x :: p, y :: u, h => by
    simp only [List.zipWith_cons_cons, dotQ]
    rw [dotQ_along t l p u (by simpa using h)]; grind
theorem dotQ_neg : ∀ (l : List Int) (p : List Rat), dotQ (l.map (fun c => -c)) p = - dotQ l p
  | [], p => by cases p <;> simp only [List.map, dotQ] <;> grind
  | c :: l, [] => by simp only [List.map, dotQ]; grind
  | c :: l, x :: p => by simp only [List.map, dotQ]; rw [dotQ_neg l p, Rat.intCast_neg]; grind
theorem below_at (row : Row) (p : List Rat) : rowQ (below row) p = - rowQ row p - 1 := by
  unfold rowQ below
  simp only
  rw [dotQ_neg, Int.sub_eq_add_neg, Rat.intCast_add, Rat.intCast_neg, Rat.intCast_neg, rc1]; grind
theorem far_feasible {V : Nat} {rows : List Row} {row : Row} {u p : List Rat} (hr : ∀ r ∈ rows, r.coefs.length = V) (hrow : row.coefs.length = V) (hu : u.length = V + 1) (h0 : u.getD V 0 = 0)
    (h1 : ∀ r ∈ rows, 0 ≤ dotQ (fullR r) u) (h2 : dotQ (fullR row) u < 0) (hp : p.length = V) (h3 : ∀ r ∈ rows, 0 ≤ rowQ r p) : ∃ q : List Rat, ∀ r ∈ rows ++ [below row], 0 ≤ rowQ r q := by
  have hd : ∀ r : Row, r.coefs.length = V → dotQ (fullR r) u = dotQ r.coefs (u.take V) := fun r hl => by rw [full_dot hl hu, h0]; grind
  have hpt : p.length = (u.take V).length := by simp; omega
  rw [hd row hrow] at h2
  -- how far
  obtain ⟨t, ht0, ht1⟩ : ∃ t : Rat, 0 ≤ t ∧ rowQ row p + t * dotQ row.coefs (u.take V) ≤ -1 := by
    by_cases hc : rowQ row p ≤ -1
    · exact ⟨0, by grind, by grind⟩
    · have hc' : 0 < rowQ row p + 1 := by grind
      have hg : 0 < - dotQ row.coefs (u.take V) := by grind
      have hgi := Rat.inv_pos.2 hg
      refine ⟨(rowQ row p + 1) * (- dotQ row.coefs (u.take V))⁻¹, by have := Rat.mul_pos hc' hgi; grind, ?_⟩
      have hn : - dotQ row.coefs (u.take V) ≠ 0 := by grind
      have := Rat.mul_inv_cancel _ hn
      generalize dotQ row.coefs (u.take V) = g at *
      generalize rowQ row p = v at *
      have e : (v + 1) * (-g)⁻¹ * g = -(v + 1) * ((-g) * (-g)⁻¹) := by grind
      rw [e, this]; grind
  refine ⟨List.zipWith (fun x y => x + t * y) p (u.take V), fun r hr' => ?_⟩
  have hv : ∀ r : Row, rowQ r (List.zipWith (fun x y => x + t * y) p (u.take V)) = rowQ r p + t * dotQ r.coefs (u.take V) := fun r => by
    unfold rowQ; rw [dotQ_along t _ _ _ hpt]; grind
  rcases List.mem_append.1 hr' with hr' | hr'
  · rw [hv]
    have h4 := h1 r hr'
    rw [hd r (hr r hr')] at h4
    have h5 := Rat.mul_nonneg ht0 h4
    have h6 := h3 r hr'
    grind
  · rw [List.mem_singleton.1 hr', below_at, hv]; grind
def ImpRight (V : Nat) (rows : List Row) (row : Row) (ans : List Rat ⊕ List Rat) : Prop := RightA (matL V rows [unitL V 1]) ((fullR row).map fun z : Int => (z : Rat)) ans
theorem imp_inl {V : Nat} {rows : List Row} {row : Row} {y : List Rat} (hr : ∀ r ∈ rows, r.coefs.length = V) (hrow : row.coefs.length = V) (ha : ImpRight V rows row (.inl y)) (hb : modestB V (rows ++ [row]) = true → AnsB (.inl y) maxV) :
    ImpOk V rows row (certOf (y.take rows.length)) := by
  unfold ImpRight RightA at ha
  rw [matL_head, matL_len] at ha
  simp only [List.length_singleton] at ha
  obtain ⟨a1, a2, a3⟩ := ha
  have hy0 := all_nonneg a1 a2
  have hfr : ∀ k, k ≤ V → ((fullR row).map (fun z : Int => (z : Rat))).getD k 0 = (entR row k : Rat) := fun k hk => by
    simp only [List.getD_eq_getElem?_getD, List.getElem?_map, entR]
    cases (fullR row)[k]? <;> rfl
  refine cert_ok hr hrow (by simp; omega) (fun x hx => hy0 x (List.mem_of_mem_take hx)) (fun k hk => ?_) ?_ (fun hm => ?_)
  · have := a3 k (by omega)
    rw [cols_comb1 (by omega) a1, unitL_low hk, hfr k (by omega)] at this
    rw [← this]; grind
  · have := a3 V (by omega)
    rw [cols_comb1 (Nat.le_refl _) a1, unitL_top, hfr V (Nat.le_refl _), entR_top hrow] at this
    have h1 := hy0 (y.getD rows.length 0) (getD_mem (by omega))
    rw [← this, rc1]; grind
  · obtain ⟨d, hd, hdN, hI⟩ := hb hm
    exact ⟨d, hd, hdN, fun x hx => hI x (List.mem_of_mem_take hx)⟩
theorem imp_inr {V : Nat} {rows : List Row} {row : Row} {u : List Rat} (hr : ∀ r ∈ rows, r.coefs.length = V) (hrow : row.coefs.length = V) (ha : ImpRight V rows row (.inr u)) :
    u.length = V + 1 ∧ (∀ r ∈ rows, 0 ≤ dotQ (fullR r) u) ∧ 0 ≤ u.getD V 0 ∧ dotQ (fullR row) u < 0 := by
  unfold ImpRight RightA at ha
  rw [matL_head, matL_len] at ha
  simp only [List.length_singleton] at ha
  obtain ⟨a1, a2, a3⟩ := ha
  refine ⟨a1, fun r hr' => ?_, ?_, ?_⟩
  · obtain ⟨j, hj, rfl⟩ := List.mem_iff_getElem.1 hr'
    have h2 := a2 j (by omega)
    rwa [col_dot a1 (List.getElem?_eq_getElem hj) (hr _ hr')] at h2
  · have h2 := a2 rows.length (by omega)
    rw [more_dot, unit_dot, rc1] at h2
    grind
  · rwa [row_dot a1 hrow] at a3
theorem imp_pt {V : Nat} {rows : List Row} {row : Row} {u : List Rat} (hr : ∀ r ∈ rows, r.coefs.length = V) (hrow : row.coefs.length = V) (ha : ImpRight V rows row (.inr u)) (hpos : 0 < u.getD V 0) (hb : modestB V (rows ++ [row]) = true → AnsB (.inr u) maxV) :
    ImpOk V rows row (ptOf V u) := by
  obtain ⟨a1, a2, a3, a4⟩ := imp_inr hr hrow ha
  have hne : u.getD V 0 ≠ 0 := fun h => by rw [h] at hpos; exact absurd hpos (by grind)
  refine pt_ok hr hrow a1 hpos a2 (fun p hp => ?_) hb
  rw [hp, full_point hrow a1 hne]
  have h1 := Rat.inv_pos.2 hpos
  have h2 := Rat.mul_pos (show 0 < - dotQ (fullR row) u by grind) h1
  grind
theorem imp_far {V : Nat} {rows : List Row} {row : Row} {u p : List Rat} {ans : List Rat ⊕ List Rat} (hr : ∀ r ∈ rows, r.coefs.length = V) (hrow : row.coefs.length = V) (ha : ImpRight V rows row (.inr u)) (hpos : ¬ 0 < u.getD V 0)
    (hp : p.length = V) (hp1 : ∀ r ∈ rows, 0 ≤ rowQ r p) (ha2 : RightA (matL V (rows ++ [below row]) []) (unitL V (-1)) ans) (hb : modestB V (rows ++ [row]) = true → AnsB ans maxV) :
    ∃ w, ans = .inr w ∧ w.length = V + 1 ∧ 0 < w.getD V 0 ∧ ImpOk V rows row (ptOf V w) := by
  obtain ⟨a1, a2, a3, a4⟩ := imp_inr hr hrow ha
  have h0 : u.getD V 0 = 0 := by grind
  obtain ⟨q, hq⟩ := far_feasible hr hrow a1 h0 a2 a4 hp hp1
  have hr2 : ∀ r ∈ rows ++ [below row], r.coefs.length = V := fun r hr' => by
    rcases List.mem_append.1 hr' with hr' | hr'
    · exact hr r hr'
    · rw [List.mem_singleton.1 hr']; simp [below, hrow]
  unfold RightA at ha2
  rw [matL_head, matL_len] at ha2
  simp only [List.length_nil, Nat.add_zero] at ha2
  cases ans with
  | inl y =>
    exfalso
    obtain ⟨b1, b2, b3⟩ := ha2
    refine not_refuted hr2 hq (all_nonneg b1 b2) (fun k hk => ?_) ?_
    · rw [← cols_comb (V := V) (k := k) (by omega) b1, b3 k (by omega), unitL_low hk]
    · rw [← cols_comb (Nat.le_refl _) b1, b3 V (by omega), unitL_top]; rfl
  | inr w =>
    obtain ⟨b1, b2, b3⟩ := ha2
    rw [unit_dot] at b3
    have hw : 0 < w.getD V 0 := by
      have : ((-1 : Int) : Rat) = -1 := rfl
      rw [this] at b3; grind
    have hne : w.getD V 0 ≠ 0 := fun h => by rw [h] at hw; exact absurd hw (by grind)
    have hd : ∀ r ∈ rows ++ [below row], 0 ≤ dotQ (fullR r) w := fun r hr' => by
      obtain ⟨j, hj, rfl⟩ := List.mem_iff_getElem.1 hr'
      have h2 := b2 j hj
      rwa [col_dot b1 (List.getElem?_eq_getElem hj) (hr2 _ hr')] at h2
    refine ⟨w, rfl, b1, hw, pt_ok hr hrow b1 hw (fun r hr' => hd r (by simp [hr'])) (fun p hp => ?_) hb⟩
    have h3 := full_point (r := below row) (by simp [below, hrow]) b1 hne
    have h4 := Rat.mul_nonneg (hd (below row) (by simp)) (show 0 ≤ (w.getD V 0)⁻¹ by have := Rat.inv_pos.2 hw; grind)
    rw [← h3, ← hp, below_at] at h4
    grind
theorem imp_zero {V : Nat} {rows : List Row} {row : Row} {ms : List Nat} (h : SolveOk V rows (.ml ms)) : ImpOk V rows row (.cert 0 ms) := by
  obtain ⟨h1, _, h3, h4⟩ := h
  refine ⟨h1, h3, by decide, ?_⟩
  unfold lprovW
  rw [if_pos rfl]; exact h4
end YtihgdplbehempaaGreat
end Go.Vm
end
section
set_option linter.unusedSimpArgs false
namespace Go.Vm
open Go Go.Proofs Go.Whole Go.Simplex
namespace YtihgdplbehempaaGreat
open Go.Proofs.Tryz
structure GoodX (m : List (List Rat)) (rhs : List Rat) (T : Tab) : Prop where
  ok : T.Ok m.length ((m.headD []).length + m.length + 1)
  cols : T.cols = (m.headD []).length
  inv : Inv m.length (m.headD []).length (A0 m rhs) (toS T)
  det : DN m.length (A0 m rhs) (toS T) ≠ 0
  det5 : m.length ≤ 5 → D (colC m.length (A0 m rhs) (toS T)) ≠ 0
structure IntM (m : List (List Rat)) (rhs : List Rat) (c : Nat) : Prop where
  one : 1 ≤ c
  ms : ∀ r ∈ m, ∀ x ∈ r, IntB x c
  bs : ∀ x ∈ rhs, IntB x c
variable {m : List (List Rat)} {rhs : List Rat} {c : Nat} {T : Tab}
theorem zeroB' (c : Nat) : IntB 0 c := ⟨0, rfl, Nat.zero_le _⟩
theorem getD_B {l : List Rat} {c : Nat} (h : ∀ x ∈ l, IntB x c) (k : Nat) : IntB (l.getD k 0) c := by
  by_cases hk : k < l.length
  · exact h _ (getD_mem hk)
  · rw [List.getD_eq_getElem?_getD, List.getElem?_eq_none (by omega)]; exact zeroB' c
theorem IntM.entry (h : IntM m rhs c) (k j : Nat) : IntB ((m.getD k []).getD j 0) c := by
  by_cases hk : k < m.length
  · have : m.getD k [] ∈ m := by
      rw [List.getD_eq_getElem?_getD, List.getElem?_eq_getElem hk]; exact List.getElem_mem hk
    exact getD_B (h.ms _ this) j
  · have e : m.getD k [] = [] := by rw [List.getD_eq_getElem?_getD, List.getElem?_eq_none (by omega)]; rfl
    rw [e]; exact zeroB' c
theorem flipR_B {f : Bool} {x : Rat} {c : Nat} (h : IntB x c) : IntB (flipR f x) c := by
  unfold flipR; split
  · exact h.neg
  · exact h
theorem entry_B (h : IntM m rhs c) (cols W i k j : Nat) : IntB (Simplex.entry cols W i (m.getD k []) (rhs.getD k 0) j) c := by
  unfold Simplex.entry
  split
  · exact ⟨1, rfl, h.one⟩
  · refine flipR_B ?_
    split
    · exact h.entry k j
    · split
      · exact getD_B h.bs k
      · exact zeroB' c
theorem A0_B (h : IntM m rhs c) {k : Nat} (hk : k < m.length) {j : Nat} (hj : j ≤ (m.headD []).length + m.length) : IntB (A0 m rhs k j) c := by
  rw [A0_eq hk hj]; exact entry_B h _ _ _ _ _
theorem D_unit : D (fun l k => if k = l then 1 else 0) = 1 := by
  simp [D, Simplex.d5, Simplex.d4, Simplex.d3, Simplex.d2]
  try grind
theorem begin_good : GoodX m rhs (beginL m rhs) := by
  refine ⟨begin_ok, rfl, begin_inv, ?_, fun hn => ?_⟩
  · rw [DN_unit (fun k l hk hl => by rw [begin_basis hl, A0_art hk hl])]; decide
  · have : colC m.length (A0 m rhs) (toS (beginL m rhs)) = fun l k => if k = l then 1 else 0 := by
      funext l k
      unfold colC
      by_cases hl : l < m.length
      · rw [if_pos hl]
        by_cases hk : k < m.length
        · rw [if_pos hk, begin_basis hl, A0_art hk hl]
        · rw [if_neg hk, if_neg (by omega)]
      · rw [if_neg hl]
    rw [this, D_unit]; decide
theorem GoodX.next (h : GoodX m rhs T) {q : Nat} (he : enterL T = some q) : ∃ p x, leaveL T q T.rows 0 none = some (p, x) ∧ p < m.length ∧ q < (m.headD []).length ∧ 0 < (toS T).r p q ∧ stepL T = some (pivotL T p q) ∧ GoodX m rhs (pivotL T p q) := by
  have hE := enterL_some he
  have hi := h.inv
  rw [← h.cols] at hi
  cases hl : leaveL T q T.rows 0 none with
  | none =>
    obtain ⟨i, hin, hp⟩ := hi.row hE.1 hE.2.1
    exact absurd hp (leaveL_none h.ok hl i hin)
  | some pq =>
    obtain ⟨p, x⟩ := pq
    have hL := leaveL_some h.ok hl
    rw [h.cols] at hE hi hL
    have hq : q < (m.headD []).length := hE.1
    refine ⟨p, x, rfl, hL.1, hq, hL.2.1, by simp [stepL, he, hl], pivot_ok h.ok hL.1, h.cols, ?_, ?_, fun hn => ?_⟩
    · rw [pivot_toS h.ok hL.1]; exact hi.piv hL.1 hq hL.2.1 hL.ratio
    · rw [pivot_toS h.ok hL.1]; exact hi.detN_piv hL.1 hq hL.2.1 h.det
    · rw [pivot_toS h.ok hL.1]; exact hi.det_piv hn hL.1 hq hL.2.1 (h.det5 hn)
theorem GoodX.ends (h : GoodX m rhs T) : ∃ k T', runL (k + 1) T = some T' := by
  have hi := h.inv
  rw [← h.cols] at hi
  obtain ⟨k, T', h1, _⟩ := runL_ends h.ok hi (fun _ => True) trivial (fun _ _ _ _ _ _ _ => trivial)
  exact ⟨k, T', h1⟩
theorem runL_none {k : Nat} {T T' : Tab} (h : runL (k + 1) T = some T') (he : enterL T = none) : T' = T := by
  simp only [runL, he] at h
  injection h with h; exact h.symm
theorem runL_some {k : Nat} {T T' T1 : Tab} {q : Nat} (h : runL (k + 1) T = some T') (he : enterL T = some q) (hs : stepL T = some T1) : runL k T1 = some T' := by
  simp only [runL, he, hs] at h
  exact h
def bigN (n c : Nat) : Nat := (n + 2) * (n * c) ^ n
theorem GoodX.bound (h : GoodX m rhs T) (hI : IntM m rhs c) : ∃ d : Int, d ≠ 0 ∧ d.natAbs ≤ (m.length * c) ^ m.length ∧ (∀ i, i < m.length → ∀ j, j ≤ (m.headD []).length + m.length → IntB ((d : Rat) * (toS T).r i j) ((m.length * c) ^ m.length)) ∧
    ∀ j, j ≤ (m.headD []).length + m.length → IntB ((d : Rat) * (toS T).c j) ((m.length + 1) * (m.length * c) ^ m.length) :=
  h.inv.boundedN (fun k hk j hj => A0_B hI hk hj) h.det
theorem GoodX.bound5 (h : GoodX m rhs T) (hI : IntM m rhs c) (hn : m.length ≤ 5) : ∃ d : Int, d ≠ 0 ∧ d.natAbs ≤ 120 * c ^ 5 ∧ (∀ i, i < m.length → ∀ j, j ≤ (m.headD []).length + m.length → IntB ((d : Rat) * (toS T).r i j) (120 * c ^ 5)) ∧
    ∀ j, j ≤ (m.headD []).length + m.length → IntB ((d : Rat) * (toS T).c j) (6 * (120 * c ^ 5)) :=
  h.inv.bounded hn hI.one (fun k hk j hj => A0_B hI hk hj) (h.det5 hn)
theorem big1 (n c : Nat) : (n * c) ^ n ≤ bigN n c := Nat.le_mul_of_pos_left _ (by omega)
theorem big2 (n c : Nat) : (n + 1) * (n * c) ^ n ≤ bigN n c := Nat.mul_le_mul_right _ (by omega)
theorem GoodX.row_FB (h : GoodX m rhs T) (hI : IntM m rhs c) : ∀ r ∈ T.rows, ∀ x ∈ r, FB x (bigN m.length c) (bigN m.length c) := by
  intro r hr x hx
  obtain ⟨d, hd, hdN, h1, _⟩ := h.bound hI
  obtain ⟨i, hi, rfl⟩ := List.mem_iff_getElem.1 hr
  obtain ⟨j, hj, rfl⟩ := List.mem_iff_getElem.1 hx
  have hin : i < m.length := by rw [← h.ok.rn]; exact hi
  have hjw := h.ok.rw' _ (List.getElem_mem hi)
  have := h1 i hin j (by omega)
  have he : (toS T).r i j = T.rows[i][j] := by
    simp [toS, Tab.row, List.getD_eq_getElem?_getD, hi, hj]
  rw [he] at this
  exact intB_FB hd (Nat.le_trans hdN (big1 _ _)) (this.mono (big1 _ _))
theorem GoodX.cost_FB (h : GoodX m rhs T) (hI : IntM m rhs c) : ∀ x ∈ T.cost, FB x (bigN m.length c) (bigN m.length c) := by
  intro x hx
  obtain ⟨d, hd, hdN, _, h2⟩ := h.bound hI
  obtain ⟨j, hj, rfl⟩ := List.mem_iff_getElem.1 hx
  have hjw := h.ok.cw
  have := h2 j (by omega)
  have he : (toS T).c j = T.cost[j] := by
    simp [toS, List.getD_eq_getElem?_getD, hj]
  rw [he] at this
  exact intB_FB hd (Nat.le_trans hdN (big1 _ _)) (this.mono (big2 _ _))
theorem valuesL_mem {cols last : Nat} : ∀ (rows : List (List Rat)) (bs : List Nat) (y : List Rat), ∀ x ∈ valuesL cols last rows bs y, x ∈ y ∨ ∃ r ∈ rows, x = r.getD last 0
  | [], bs, y, x, hx => by cases bs <;> exact .inl hx
  | r :: rows, [], y, x, hx => .inl hx
  | r :: rows, b :: bs, y, x, hx => by
    simp only [valuesL] at hx
    rcases valuesL_mem rows bs _ x hx with h | ⟨r', hr', e⟩
    · split at h
      · rcases List.mem_or_eq_of_mem_set h with h | rfl
        · exact .inl h
        · exact .inr ⟨r, by simp, rfl⟩
      · exact .inl h
    · exact .inr ⟨r', by simp [hr'], e⟩
theorem GoodX.ansB (h : GoodX m rhs T) {d : Int} {N1 N2 : Nat} (hd : d ≠ 0) (hdN : d.natAbs ≤ N1) (h1 : ∀ i, i < m.length → ∀ j, j ≤ (m.headD []).length + m.length → IntB ((d : Rat) * (toS T).r i j) N1)
    (h2 : ∀ j, j ≤ (m.headD []).length + m.length → IntB ((d : Rat) * (toS T).c j) N2) : AnsB (answerL T rhs m.length) (N2 + N1) := by
  refine ⟨d, hd, by omega, fun x hx => ?_⟩
  unfold answerL at hx
  split at hx
  · simp only [ansL] at hx
    rcases valuesL_mem _ _ _ x hx with h3 | ⟨r, hr, rfl⟩
    · rw [(List.mem_replicate.1 h3).2]
      exact ⟨0, by grind, Nat.zero_le _⟩
    · obtain ⟨i, hi, rfl⟩ := List.mem_iff_getElem.1 hr
      have hin : i < m.length := by rw [← h.ok.rn]; exact hi
      have hcw := h.ok.cw
      have := h1 i hin (T.cost.length - 1) (by omega)
      have he : (toS T).r i (T.cost.length - 1) = T.rows[i].getD (T.cost.length - 1) 0 := by
        simp [toS, Tab.row, List.getD_eq_getElem?_getD, hi]
      rw [he] at this
      exact this.mono (by omega)
  · simp only [ansL, multL, List.mem_map, List.mem_range] at hx
    obtain ⟨i, hi, rfl⟩ := hx
    have := h2 (T.cols + i) (by rw [h.cols]; omega)
    have he : (toS T).c (T.cols + i) = T.cost.getD (T.cols + i) 0 := rfl
    rw [he] at this
    have h3 : IntB ((d : Rat) * (T.cost.getD (T.cols + i) 0 - 1)) (N2 + N1) := by
      have h4 := this.sub (⟨d, rfl, hdN⟩ : IntB (d : Rat) N1)
      have e : (d : Rat) * (T.cost.getD (T.cols + i) 0 - 1) = (d : Rat) * T.cost.getD (T.cols + i) 0 - (d : Rat) := by grind
      rw [e]; exact h4
    unfold flipR
    split
    · have := h3.neg
      have e : (d : Rat) * -(T.cost.getD (T.cols + i) 0 - 1) = -((d : Rat) * (T.cost.getD (T.cols + i) 0 - 1)) := by grind
      rw [e]; exact this
    · exact h3
theorem GoodX.answer (h : GoodX m rhs T) (hI : IntM m rhs c) (he : enterL T = none) : RightA m rhs (answerL T rhs m.length) ∧ AnsB (answerL T rhs m.length) (bigN m.length c) ∧ (m.length ≤ 5 → AnsB (answerL T rhs m.length) (840 * c ^ 5)) := by
  refine ⟨answer_right h.ok h.cols h.inv he, ?_, fun hn => ?_⟩
  · obtain ⟨d, hd, hdN, h1, h2⟩ := h.bound hI
    have := h.ansB hd hdN h1 h2
    have e : (m.length + 1) * (m.length * c) ^ m.length + (m.length * c) ^ m.length = bigN m.length c := by
      unfold bigN
      rw [show m.length + 2 = (m.length + 1) + 1 from rfl, Nat.succ_mul (m.length + 1)]
    rwa [e] at this
  · obtain ⟨d, hd, hdN, h1, h2⟩ := h.bound5 hI hn
    have := h.ansB hd hdN h1 h2
    have e : 6 * (120 * c ^ 5) + 120 * c ^ 5 = 840 * c ^ 5 := by omega
    rwa [e] at this
def Fit (N : Nat) : Prop := 1 ≤ N ∧ N * N < B ^ 50000
theorem Fit.le {N : Nat} (h : Fit N) : N < B ^ 50000 := Nat.lt_of_le_of_lt (Nat.le_mul_of_pos_left N h.1) h.2
theorem FB.q1 {x : Rat} {N : Nat} (hN : Fit N) (h : FB x N N) : qfits x := h.fits hN.le hN.le (by decide)
theorem FB.q2 {x : Rat} {N : Nat} (hN : Fit N) (h : FB x (N * N) (N * N)) : qfits x := h.fits hN.2 hN.2 (by decide)
theorem numQ_pos {x : Rat} (h0 : 0 < x) : 0 < x.num := by
  refine Int.not_le.1 fun h => ?_
  have h1 : 0 ≤ (-x).num := by rw [Rat.neg_num]; omega
  have := Rat.num_nonneg.1 h1
  grind
theorem FB.inv {x : Rat} {n d : Nat} (h : FB x n d) (h0 : 0 < x) : FB x⁻¹ d n := by
  rw [Rat.inv_def]
  have hn : 0 < x.num := numQ_pos h0
  exact FB.divInt hn (by rw [Int.natAbs_natCast]; exact h.2) h.1
theorem Fit.mono {N M : Nat} (h : Fit N) (h1 : 1 ≤ M) (h2 : M ≤ N) : Fit M := ⟨h1, Nat.lt_of_le_of_lt (Nat.mul_le_mul h2 h2) h.2⟩
end YtihgdplbehempaaGreat
end Go.Vm
end
section
set_option linter.unusedSimpArgs false
set_option maxRecDepth 10000
namespace Go.Vm
open Go Go.Proofs Go.Whole Go.Simplex
namespace YtihgdplbehempaaGreat
open Go.Proofs.Tryz
attribute [go_sem] Tryz.results208 Tryz.results137 Tryz.results139 Tryz.results138 Tryz.results136 Tryz.results66
def rowO (r : List Rat) : Obj := ⟨(flat (r.map encQ)).map .t, 6, r.length, tRat, true, true⟩
theorem ok_rats (l : List Rat) : ∀ x ∈ l.map encQ, elemOK true 6 x := by
  intro x hx
  obtain ⟨y, _, rfl⟩ := List.mem_map.1 hx
  exact ok_encQ y
theorem rats_len (l : List Rat) : ∀ x ∈ l.map encQ, x.cells.length = 6 := fun x hx => (ok_rats l x hx).2.2
theorem rat_load {l : List Rat} {k : Nat} {q : Rat} (hq : l[k]? = some q) : List.take 6 (List.drop (k * 6) (List.map PV.t (flat (List.map encQ l)))) = (ratC q).map PV.t :=
  flat_cells_get (rats_len l) (by rw [List.getElem?_map, hq]; rfl)
theorem rat_store {l : List Rat} {k : Nat} {q : Rat} (hk : k < l.length) : splice (List.map PV.t (flat (List.map encQ l))) (k * 6) ((ratC q).map PV.t) = List.map PV.t (flat (List.map encQ (l.set k q))) := by
  rw [List.map_set]
  exact flat_splice (rats_len l) (x := encQ l[k]) (y := encQ q) (by rw [List.getElem?_map, List.getElem?_eq_getElem hk]; rfl) (ratC_length q)
theorem rat_len (l : List Rat) : (flat (List.map encQ l)).length = l.length * 6 := by rw [flat_length _ 6 (rats_len l), List.length_map]
theorem hget_new_old {h : Hp} {id : Id} {o : Obj} {s : Nat} (hg : hget h id = some o) (o' : Obj) : hget (hnew h s o') id = some o := by
  rw [hget_hnew, if_neg]
  · exact hg
  · intro e; rw [e, hget_hnext] at hg; cases hg
theorem ne_hnext {h : Hp} {id : Id} {o : Obj} {s : Nat} (hg : hget h id = some o) : (hnext h s == id) = false := by
  rw [beq_eq_false_iff_ne]
  intro e; rw [← e, hget_hnext] at hg; cases hg
theorem set_same {h : Hp} {id : Id} {o : Obj} (hg : hget h id = some o) (o' : Obj) : hget (hset h id o') id = some o' := by
  rw [hget_hset, if_pos rfl, hg]; rfl
theorem set_other {h : Hp} {id id' : Id} {o : Obj} (hg : hget h id' = some o) (hn : (id' == id) = false ∨ (id == id') = false) (o' : Obj) : hget (hset h id o') id' = some o := by
  rw [hget_hset, if_neg]
  · exact hg
  · intro e; subst e; simp at hn
theorem less_zero (r p : List Rat) (col : Nat) (hl : r.length = p.length) (h0 : r.getD col 0 = 0) : lessL r p col = r := by
  unfold lessL
  rw [h0]
  apply List.ext_getElem
  · simp [hl]
  · intro i h1 h2
    simp
    grind
theorem less_i (h : Hp) (id id2 : Id) (r p : List Rat) (col : Nat) (hl1 : r.length ≤ p.length) (hl2 : p.length ≤ r.length) (hc : col < r.length) (hne : (id == id2) = false) (hr : hget h id = some (rowO r)) (hp : hget h id2 = some (rowO p))
    (f1 : ∀ x ∈ r, qfits x) (f2 : ∀ x ∈ p, qfits x) (f3 : ∀ x ∈ p, qfits (r.getD col 0 * x)) :
    ICall Tryz.prog 208 [.rf id r.length, .rf id2 p.length, .t (i64 col)] h (fun _ h' => hget h' id = some (rowO (lessL r p col)) ∧ Same h h' [id]) := by
  unfold rowO at hr hp
  have hcol : r[col]? = some (r.getD col 0) := by rw [List.getD_eq_getElem?_getD, List.getElem?_eq_getElem hc]; rfl
  have hload := rat_load hcol
  have hfl := rat_len r
  have hlb := hc
  have hc6 : col * 6 + 6 ≤ r.length * 6 := by omega
  have sg := qsign_d (r.getD col 0)
  by_cases h0 : r.getD col 0 = 0
  · rw [h0, show (0 : Rat).num.sign = 0 from rfl] at sg
    rw [less_zero r p col (by omega) h0]
    rw [h0] at hload
    refine icall_mk orders Tryz.func208 rfl (by kernel_rfl) (fun d => d == 6 || d == 8 || d == 26 || d == 28 || d == 30 || d == 36) (by kernel_rfl) rfl (fun hs hlen => ?_)
    clear hs f1 f2 f3
    repeat' (first
      | (with_reducible first | refine sA ?_ ?_ | refine sB ?_ ?_ | refine sC ?_ ?_ | refine sD ?_ ?_ | refine sE ?_ ?_ | refine sF ?_ ?_) <;> intro h
      | refine clK_mk (sg) rfl ?_
      | simp only [go_sem, *])
    exact ⟨hget_new_old hr _, (Same.new h 6 _).mono (by simp)⟩
  · have g0 : ((r.getD col 0).num.sign == 0) = false := by
      have : (r.getD col 0).num ≠ 0 := fun h => h0 (Rat.num_eq_zero.1 h)
      rw [beq_eq_false_iff_ne]
      exact fun hh => this (Int.sign_eq_zero_iff_zero.1 hh)
    have hbyf : qfits (r.getD col 0) := f1 _ (List.mem_of_getElem? hcol)
    have f3' : ∀ x ∈ p, qfits (r.getD col 0 * x) := f3
    have hlz : ∀ k (_ : k < r.length), (lessL r p col)[k]? = some (r.getD k 0 - r.getD col 0 * p.getD k 0) := by
      intro k hk
      unfold lessL
      have hkp : k < p.length := by omega
      rw [List.getElem?_zipWith, List.getElem?_eq_getElem hk, List.getElem?_eq_getElem hkp]
      simp [List.getD, hk, hkp]
    generalize r.getD col 0 = b at *
    refine icall_mk orders Tryz.func208 rfl (by kernel_rfl) (fun d => d == 6 || d == 8 || d == 26 || d == 28 || d == 30 || d == 36) (by kernel_rfl) rfl (fun hs hlen => ?_)
    clear hs
    have hpl : p.length ≤ 9223372036854775807 := hlen id2 _ hp
    clear hlen
    have hO := hget_new_old hr (s := 6)
    have hO2 := hget_new_old hp (s := 6)
    repeat' (first
      | (with_reducible first | refine sA ?_ ?_ | refine sB ?_ ?_ | refine sC ?_ ?_ | refine sD ?_ ?_ | refine sE ?_ ?_ | refine sF ?_ ?_) <;> intro h
      | refine clK_mk (sg) rfl ?_
      | simp only [go_sem, *, beq_self_eq_true])
    refine loop_range p (fun k s' => ∃ cur : List Rat, hget s'.hp id = some ⟨(flat (cur.map encQ)).map .t, 6, r.length, tRat, true, true⟩ ∧ hget s'.hp id2 = some ⟨(flat (p.map encQ)).map .t, 6, p.length, tRat, true, true⟩ ∧ hget s'.hp (hnext h 6) = some ⟨(ratC b).map .t, 6, 1, tRat, true, true⟩ ∧ Same h s'.hp [id] ∧ cur.length = r.length ∧ cur.drop k = r.drop k ∧ cur.take k = (lessL r p col).take k) rfl rfl (by first | assumption | omega) (by kernel_rfl) (fun _ _ _ _ hj => hj) (fun _ _ _ hj => hj) ?_ (fun k x s' hx hd hk hJ hix hfr G hG => ?_) (fun s' hJ hfr => ?_)
    · exact ⟨r, hO _, hO2 _, hget_new _ _, (Same.new h 6 _).mono (by simp), rfl, rfl, rfl⟩
    · have c0 := hfr 0 (by kernel_rfl)
      have c6 := hfr 6 (by kernel_rfl)
      have c16 := hfr 16 (by kernel_rfl)
      clear hfr
      simp only [go_sem] at c0 c6 c16
      obtain ⟨cur, h1, h2, h6, hsm, hcl, hdr, htk⟩ := hJ
      have n1 := hget_new_old h1 (s := 8)
      have n2 := hget_new_old h2 (s := 8)
      have n6 := hget_new_old h6 (s := 8)
      have hlp := rat_load hx
      have hkr : k < r.length := by omega
      obtain ⟨y, hy, _⟩ := get_of_lt r k hkr
      have hcy : cur[k]? = some y := by
        have := congrArg (fun l => l[0]?) hdr
        simp only [List.getElem?_drop, Nat.add_zero] at this
        rw [this, hy]
      have hlc := rat_load hcy
      have hlz1 := hlz k hkr
      have hyD : r.getD k 0 = y := by rw [List.getD_eq_getElem?_getD, hy]; rfl
      have hxD : p.getD k 0 = x := by rw [List.getD_eq_getElem?_getD, hx]; rfl
      rw [hyD, hxD] at hlz1
      have sx := qsign_d x
      have hp6 : k * 6 + 6 ≤ p.length * 6 := by omega
      have hr6 : k * 6 + 6 ≤ r.length * 6 := by omega
      have hflp := rat_len p
      have hflc := rat_len cur
      have hkr1 : k + 1 ≤ r.length := hkr
      by_cases hx0 : x = 0
      · subst hx0
        rw [show (0 : Rat).num.sign = 0 from rfl] at sx
        have e0 : y - b * 0 = y := by grind
        rw [e0] at hlz1
        clear hlz hO hO2 hyD hxD
        repeat' (first
          | (with_reducible first | refine sA ?_ ?_ | refine sB ?_ ?_ | refine sC ?_ ?_ | refine sD ?_ ?_ | refine sE ?_ ?_ | refine sF ?_ ?_) <;> intro h
          | refine clK_mk (sx) rfl ?_
          | simp only [go_sem, *])
        refine hG _ ⟨cur, n1 _, n2 _, n6 _, (hsm.trans (Same.new _ 8 _)).mono (by simp), hcl, ?_, ?_⟩
        · have := congrArg List.tail hdr; simpa using this
        · rw [List.take_add_one, List.take_add_one, htk, hcy, hlz1]
      · have gx : (x.num.sign != 0) = true := by
          have : x.num ≠ 0 := fun h => hx0 (Rat.num_eq_zero.1 h)
          rw [bne_iff_ne]
          exact fun hh => this (Int.sign_eq_zero_iff_zero.1 hh)
        have hxm := List.mem_of_getElem? hx
        have w1 := qmul_d b x hbyf (f2 x hxm)
        have w2 := qsub_d y (b * x) (f1 y (List.mem_of_getElem? hy)) (f3 x hxm)
        have hst := rat_store (l := cur) (k := k) (q := y - b * x) (by omega)
        have hb6 := ne_hnext (s := 6) hr
        have hq : (ratC (y - b * x)).length = 6 := ratC_length _
        have hkc : k * 6 + 6 ≤ cur.length * 6 := by omega
        clear hlz hO hO2 hyD hxD f1 f2 f3 f3'
        repeat' (first
          | (with_reducible first | refine sA ?_ ?_ | refine sB ?_ ?_ | refine sC ?_ ?_ | refine sD ?_ ?_ | refine sE ?_ ?_ | refine sF ?_ ?_) <;> intro h
          | refine clK_mk (sx) rfl ?_
          | refine clK_mk (w1) rfl ?_
          | refine clK_mk (w2) rfl ?_
          | simp only [go_sem, *])
        refine hG _ ⟨cur.set k (y - b * x), set_same (n1 _) _, set_other (n2 _) (.inr hne) _, set_other (n6 _) (.inl hb6) _, ?_, by simp [hcl], ?_, ?_⟩
        · exact ((hsm.trans (Same.new _ 8 _)).trans (Same.set _ id _)).mono (by simp)
        · rw [List.drop_set_of_lt (by omega)]
          have := congrArg List.tail hdr; simpa using this
        · rw [take_set_succ _ _ _ (by omega), htk, List.take_add_one, hlz1]; rfl
    · have c0 := hfr 0 (by kernel_rfl)
      clear hfr
      simp only [go_sem] at c0
      obtain ⟨cur, h1, _, _, hsm, hcl, hdr, htk⟩ := hJ
      have hll : (lessL r p col).length = p.length := by unfold lessL; rw [List.length_zipWith]; omega
      rw [List.take_of_length_le (by omega), List.take_of_length_le (by omega)] at htk
      subst htk
      clear hlz hO hO2
      repeat' (first
        | (with_reducible first | refine sA ?_ ?_ | refine sB ?_ ?_ | refine sC ?_ ?_ | refine sD ?_ ?_ | refine sE ?_ ?_ | refine sF ?_ ?_) <;> intro h
        | simp only [go_sem, *])
      unfold rowO; rw [hll]
      congr 2; omega
end YtihgdplbehempaaGreat
end Go.Vm
end
