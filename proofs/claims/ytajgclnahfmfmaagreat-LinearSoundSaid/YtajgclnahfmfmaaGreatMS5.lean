import Derived.Test.YtajgclnahfmfmaaGreatMS4
set_option linter.unusedSimpArgs false
set_option linter.unusedVariables false
section
set_option linter.unusedSimpArgs false
set_option maxRecDepth 10000
namespace Go.Vm
open Go Go.Proofs Go.Whole
namespace YtajgclnahfmfmaaGreat
open Go.Proofs.Tryz
attribute [go_sem] Tryz.results99 Tryz.results35 Tryz.results98
abbrev tRats : TypeId := 124
theorem B2 : B ^ 2 = 18446744073709551616 := by decide
theorem B4 : B ^ 4 = 340282366920938463463374607431768211456 := by decide
def FB (q : Rat) (n d : Nat) : Prop := q.num.natAbs ≤ n ∧ q.den ≤ d
theorem FB.mono {q : Rat} {n d n' d' : Nat} (h : FB q n d) (h1 : n ≤ n') (h2 : d ≤ d') : FB q n' d' := ⟨Nat.le_trans h.1 h1, Nat.le_trans h.2 h2⟩
theorem FB.divInt {a b : Int} (hb : 0 < b) {n d : Nat} (h1 : a.natAbs ≤ n) (h2 : b.natAbs ≤ d) : FB (Rat.divInt a b) n d := by
  obtain ⟨e1, e2⟩ := divInt_num (a := a) hb
  refine ⟨?_, ?_⟩
  · rw [e1, Int.natAbs_tdiv]; exact Nat.le_trans (Nat.div_le_self _ _) h1
  · have h3 : ((Rat.divInt a b).den : Int).natAbs ≤ b.natAbs := by rw [e2, Int.natAbs_tdiv]; exact Nat.div_le_self _ _
    rw [Int.natAbs_natCast] at h3
    omega
theorem den_mul_pos (p q : Rat) : 0 < (p.den : Int) * q.den := by
  have := Nat.mul_pos p.den_pos q.den_pos
  rw [← Int.natCast_mul]; omega
theorem FB.add {p q : Rat} {n d n' d' : Nat} (h : FB p n d) (h' : FB q n' d') : FB (p + q) (n * d' + n' * d) (d * d') := by
  rw [add_eq]
  refine FB.divInt (den_mul_pos p q) ?_ ?_
  · have a1 : (p.num * q.den).natAbs ≤ n * d' := by rw [Int.natAbs_mul, Int.natAbs_natCast]; exact Nat.mul_le_mul h.1 h'.2
    have a2 : (q.num * p.den).natAbs ≤ n' * d := by rw [Int.natAbs_mul, Int.natAbs_natCast]; exact Nat.mul_le_mul h'.1 h.2
    omega
  · rw [Int.natAbs_mul, Int.natAbs_natCast, Int.natAbs_natCast]; exact Nat.mul_le_mul h.2 h'.2
theorem FB.mul {p q : Rat} {n d n' d' : Nat} (h : FB p n d) (h' : FB q n' d') : FB (p * q) (n * n') (d * d') := by
  rw [mul_eq]
  refine FB.divInt (den_mul_pos p q) ?_ ?_
  · rw [Int.natAbs_mul]; exact Nat.mul_le_mul h.1 h'.1
  · rw [Int.natAbs_mul, Int.natAbs_natCast, Int.natAbs_natCast]; exact Nat.mul_le_mul h.2 h'.2
theorem FB.int (z : Int) : FB (z : Rat) z.natAbs 1 := ⟨Nat.le_refl _, Nat.le_refl _⟩
theorem FB.fits {q : Rat} {n d k : Nat} (h : FB q n d) (hn : n < B ^ k) (hd : d < B ^ k) (hk : k ≤ 100000) : qfits q :=
  ⟨Nat.le_trans (digs_length_le (Nat.lt_of_le_of_lt h.1 hn)) hk, Nat.le_trans (digs_length_le (Nat.lt_of_le_of_lt h.2 hd)) hk⟩
theorem B_pow2 (k : Nat) : B ^ (2 * (k + 1)) = B ^ (2 * k) * 18446744073709551616 := by
  rw [Nat.mul_add, Nat.pow_add, show B ^ (2 * 1) = 18446744073709551616 by decide]
theorem B_pow_pos (k : Nat) : 0 < B ^ k := Nat.pow_pos B_pos
def partB (k : Nat) (q : Rat) : Prop := FB q (B ^ (2 * (k + 1))) (B ^ (2 * k))
theorem partB.fits {k : Nat} {q : Rat} (h : partB k q) (hk : k ≤ 1000) : qfits q := by
  have h1 : B ^ (2 * (k + 1)) < B ^ (2 * (k + 1) + 1) := Nat.pow_lt_pow_right (by rw [B_eq]; decide) (Nat.lt_succ_self _)
  have h2 : B ^ (2 * k) ≤ B ^ (2 * (k + 1)) := Nat.pow_le_pow_right B_pos (by omega)
  exact FB.fits (k := 2 * (k + 1) + 1) h h1 (by omega) (by omega)
theorem partB.step {k : Nat} {q p : Rat} {a : Int} (h : partB k q) (ha : a.natAbs ≤ 1048576) (hp : FB p 4611686018427387904 4611686018427387904) : partB (k + 1) (q + (a : Rat) * p) := by
  have h1 := (FB.int a).mul hp
  have h2 := FB.add h h1
  have hB := B_pow_pos (2 * k)
  refine h2.mono ?_ ?_
  · rw [B_pow2 (k + 1), B_pow2 k]
    have e2 : a.natAbs * 4611686018427387904 * B ^ (2 * k) ≤ B ^ (2 * k) * 4835703278458516698824704 := by
      rw [Nat.mul_comm]
      exact Nat.mul_le_mul_left _ (by omega)
    have e3 : B ^ (2 * k) * 18446744073709551616 * 4611686018427387904 = B ^ (2 * k) * 85070591730234615865843651857942052864 := by rw [Nat.mul_assoc]
    have e4 : B ^ (2 * k) * 18446744073709551616 * 18446744073709551616 = B ^ (2 * k) * 340282366920938463463374607431768211456 := by rw [Nat.mul_assoc]
    rw [e3, e4]
    clear e3 e4
    generalize B ^ (2 * k) = b at *
    generalize a.natAbs * 4611686018427387904 * b = y at *
    omega
  · rw [B_pow2 k, Nat.one_mul]; exact Nat.mul_le_mul_left _ (by omega)
theorem partB.skip {k : Nat} {q : Rat} (h : partB k q) : partB (k + 1) q := by
  have hB := B_pow_pos (2 * k)
  refine FB.mono h ?_ ?_
  · exact Nat.pow_le_pow_right B_pos (by omega)
  · exact Nat.pow_le_pow_right B_pos (by omega)
theorem rat_nonneg_iff (q : Rat) : decide (q.num.sign < 0) = decide (q < 0) := by
  rw [Bool.eq_iff_iff, decide_eq_true_iff, decide_eq_true_iff, Int.sign_neg_iff]
  have := Rat.num_nonneg (q := q)
  constructor
  · intro h
    refine Rat.not_le.1 fun hh => ?_
    have := this.2 hh; omega
  · intro h
    refine Int.not_le.1 fun hh => ?_
    exact Rat.not_le.2 h (this.1 hh)
theorem lvalue_d (r : Row) (pnn : Bool) (pts : List Rat) (hl : pts.length = r.coefs.length) (hlen : r.coefs.length ≤ 128) (hc : smallB r.const = true) (hcs : ∀ c ∈ r.coefs, smallB c = true) (hp : ∀ p ∈ pts, FB p 4611686018427387904 4611686018427387904) :
    DCall Tryz.prog 99 [r.tr, .sl pnn (pts.map encQ)] (encQ (rowQ r pts)) := by
  refine dcall_mk orders Tryz.func99 rfl (by kernel_rfl) (fun d => d == 4 || d == 5) (by kernel_rfl) rfl (fun hs => ?_)
  clear hs
  have hc1 := smallB_abs hc
  have w0 := whole_d r.const ⟨by omega, by omega⟩
  repeat' (first
    | (with_reducible first | refine sA ?_ ?_ | refine sB ?_ ?_ | refine sC ?_ ?_ | refine sD ?_ ?_ | refine sE ?_ ?_ | refine sF ?_ ?_) <;> intro h
    | refine clK_mk (w0) rfl ?_
    | simp only [go_sem, *])
  refine loop_range r.coefs (fun k s' => ∃ acc : Rat, hget s'.hp (5, 0) = some ⟨(ratC acc).map .t, 6, 1, tRat, true, true⟩ ∧ hget s'.hp (4, 0) = some ⟨[i64 0, i64 0, .sl false [], .bool false, .sl false [], .bool false].map .t, 6, 1, tRat, true, true⟩ ∧ partB k acc ∧ rowQ r pts = acc + dotQ (r.coefs.drop k) (pts.drop k)) rfl rfl (by first | assumption | omega) (by kernel_rfl) (fun _ _ _ _ hj => hj) (fun _ _ _ hj => hj) ?_ (fun k x s' hx hd hk hJ hix hfr G hG => ?_) (fun s' hJ hfr => ?_)
  · refine ⟨(r.const : Rat), ?_, ?_, ?_, ?_⟩
    · rfl
    · rfl
    · exact ⟨by show r.const.natAbs ≤ B ^ 2; rw [B2]; omega, by show 1 ≤ B ^ (2 * 0); decide⟩
    · unfold rowQ; simp only [List.drop_zero]; grind
  · have c1 := hfr 1 (by kernel_rfl)
    have c5 := hfr 5 (by kernel_rfl)
    have c12 := hfr 12 (by kernel_rfl)
    clear hfr
    simp only [go_sem] at c1 c5 c12
    change _ = PV.ad (5, 0) 1 0 at c5
    obtain ⟨acc, h5, h4, hpb, hJ⟩ := hJ
    obtain ⟨p, hp1, hp2⟩ := get_of_lt pts k (by omega)
    rw [hd, hp2, dotQ] at hJ
    have hxs := smallB_abs (hcs x (List.mem_of_getElem? hx))
    have hpp := hp p (List.mem_of_getElem? hp1)
    by_cases h0 : x = 0
    · subst h0
      have g0 : ((0 : Int) != 0) = false := rfl
      repeat' (first
        | (with_reducible first | refine sA ?_ ?_ | refine sB ?_ ?_ | refine sC ?_ ?_ | refine sD ?_ ?_ | refine sE ?_ ?_ | refine sF ?_ ?_) <;> intro h
        | simp only [go_sem, *])
      refine hG _ ⟨acc, h5, h4, hpb.skip, ?_⟩
      rw [hJ]
      have : ((0 : Int) : Rat) = 0 := rfl
      rw [this]; grind
    · have g0 : (x != 0) = true := by simpa using h0
      have pf : qfits p := FB.fits (k := 3) hpp (by decide) (by decide) (by decide)
      have xf : qfits (x : Rat) := FB.fits (k := 2) (FB.int x) (by rw [B2]; omega) (by rw [B2]; decide) (by decide)
      have mf : qfits ((x : Rat) * p) := FB.fits (k := 4) ((FB.int x).mul hpp) (by rw [B4]; omega) (by rw [B4]; decide) (by decide)
      have w1 := whole_d x ⟨by omega, by omega⟩
      have w2 := qmul_d (x : Rat) p xf pf
      have w3 := qadd_d acc ((x : Rat) * p) (hpb.fits (by omega)) mf
      have hst := hpb.step hxs hpp
      have hsz : (ratC acc).length = 6 := ratC_length _
      have hsz2 : (ratC (acc + (x : Rat) * p)).length = 6 := ratC_length _
      have hld : List.take 6 (List.map PV.t (ratC acc)) = List.map PV.t (ratC acc) := List.take_of_length_le (by rw [List.length_map, hsz]; exact Nat.le_refl _)
      have hdp : List.drop 6 (List.map PV.t (ratC acc)) = [] := List.drop_of_length_le (by rw [List.length_map, hsz]; exact Nat.le_refl _)
      clear mf xf pf hpb h0 hpp
      repeat' (first
        | (with_reducible first | refine sA ?_ ?_ | refine sB ?_ ?_ | refine sC ?_ ?_ | refine sD ?_ ?_ | refine sE ?_ ?_ | refine sF ?_ ?_) <;> intro h
        | refine clK_mk (w1) rfl ?_
        | refine clK_mk (w2) rfl ?_
        | refine clK_mk (w3) rfl ?_
        | simp only [go_sem, *])
      refine hG _ ⟨acc + (x : Rat) * p, ?_, ?_, hst, ?_⟩
      · simp only [go_sem, h5, hdp, List.append_nil]
      · simp only [go_sem, h4]
      · rw [hJ]; grind
  · have c4 := hfr 4 (by kernel_rfl)
    have c5 := hfr 5 (by kernel_rfl)
    clear hfr
    simp only [go_sem] at c4 c5
    change _ = PV.ad (5, 0) 1 0 at c5
    change _ = PV.ad (4, 0) 1 0 at c4
    obtain ⟨acc, h5, h4, hpb, hJ⟩ := hJ
    have hz : dotQ (r.coefs.drop r.coefs.length) (pts.drop r.coefs.length) = 0 := by rw [List.drop_length]; cases pts.drop r.coefs.length <;> rfl
    rw [hz] at hJ
    have hJ' : rowQ r pts = acc := by rw [hJ]; grind
    rw [hJ']
    have hsz : (ratC acc).length = 6 := ratC_length _
    have hld : List.take 6 (List.map PV.t (ratC acc)) = List.map PV.t (ratC acc) := List.take_of_length_le (by rw [List.length_map, hsz]; exact Nat.le_refl _)
    clear hJ hJ' hz
    repeat' (first
      | (with_reducible first | refine sA ?_ ?_ | refine sB ?_ ?_ | refine sC ?_ ?_ | refine sD ?_ ?_ | refine sE ?_ ?_ | refine sF ?_ ?_) <;> intro h
      | simp only [go_sem, *])
theorem holds2_d (r : Row) (pnn : Bool) (pts : List Rat) (hl : pts.length = r.coefs.length) (hlen : r.coefs.length ≤ 128) (hc : smallB r.const = true) (hcs : ∀ c ∈ r.coefs, smallB c = true) (hp : ∀ p ∈ pts, FB p 4611686018427387904 4611686018427387904) :
    DCall Tryz.prog 98 [r.tr, .ptr [.sl pnn (pts.map encQ)]] (.bool (decide (rowQ r pts < 0))) := by
  have h1 := lvalue_d r pnn pts hl hlen hc hcs hp
  have h2 := qsign_d (rowQ r pts)
  rw [← rat_nonneg_iff]
  generalize rowQ r pts = q at *
  clear hl hp hc hcs
  refine dcall_mk orders Tryz.func98 rfl (by kernel_rfl) noMu (by kernel_rfl) rfl (fun hs => ?_)
  clear hs
  repeat' (first
    | (with_reducible first | refine sA ?_ ?_ | refine sB ?_ ?_ | refine sC ?_ ?_ | refine sD ?_ ?_ | refine sE ?_ ?_ | refine sF ?_ ?_) <;> intro h
    | refine clK_mk (h1) rfl ?_
    | refine clK_mk (h2) rfl ?_
    | simp only [go_sem, *])
def RV.q (x : RV) : Rat := Rat.divInt x.num x.den
theorem ratB_spec {x : RV} (h : ratB x = true) : 1 ≤ x.den ∧ x.den ≤ 4611686018427387904 ∧ -4611686018427387904 ≤ x.num ∧ x.num ≤ 4611686018427387904 := by
  simp only [ratB, winB, Bool.and_eq_true, decide_eq_true_eq] at h
  omega
theorem ratB_FB {x : RV} (h : ratB x = true) : FB x.q 4611686018427387904 4611686018427387904 := by
  have := ratB_spec h
  exact FB.divInt (by omega) (by omega) (by omega)
def holdsR (vars : Int) (rows : List Row) (pts : List RV) : Bool × Int :=
  if sysErr vars rows ≠ 0 then (false, sysErr vars rows) else if pointB vars pts then (rows.all (fun r => !decide (rowQ r (pts.map RV.q) < 0)), 0) else (false, 2)
theorem toTr_fn_ad {h : Hp} {k : Nat} {g : FuncId} {id : Id} {n : Nat} {o : Obj} {ts : List Tr} (hg : hget h id = some o) (hl : o.len = n) (hm : mapO (toTr h k) o.cs = some ts) : toTr h (k + 2) (.fn g [.ad id n 0]) = some (.fn g [.ptr ts]) := by
  have h1 : toTr h (k + 1) (.ad id n 0) = some (.ptr ts) := by
    show (match hget h id with | some o => if o.len = n then (match mapO (toTr h k) o.cs with | some ts => some (Tr.ptr (ts.drop 0)) | none => none) else none | none => none) = _
    rw [hg]; simp only [hl, if_true, hm, List.drop_zero]
  show (match mapO (toTr h (k + 1)) [PV.ad id n 0] with | some ts => some (Tr.fn g ts) | none => none) = _
  simp only [mapO, h1]
def qz : List Tr := [i64 0, i64 0, .sl false [], .bool false, .sl false [], .bool false]
theorem lholds_d (vars : Int) (rnn : Bool) (rows : List Row) (pnn : Bool) (pts : List RV) :
    DCall Tryz.prog 35 [i64 vars, .sl rnn (rows.map Row.tr), .sl pnn (pts.map RV.tr)] (.tup [.bool (holdsR vars rows pts).1, i64 (holdsR vars rows pts).2]) := by
  have h1 := lcheck_d vars rnn rows
  have h2 := containsRV_d pnn pts 93 (fun x => !ratB x) (fun x _ => notRatio_d x)
  rw [any_not] at h2
  unfold holdsR
  by_cases he : sysErr vars rows = 0
  · obtain ⟨V, rfl, hS⟩ := sys_of he
    rw [he] at h1 ⊢
    by_cases hpt : pointB V pts = true
    · rw [if_pos hpt]
      simp only [pointB, Bool.and_eq_true, Bool.not_eq_true', bne_eq_false_iff_eq] at hpt
      obtain ⟨hpl, hpa⟩ := hpt
      have hl1 : pts.length ≤ V := by omega
      have hl2 : V ≤ pts.length := by omega
      have g1 : ((pts.length : Int) != (V : Int)) = false := by rw [hpl]; simp
      rw [hpa] at h2
      have hV := hS.v
      have hall : ∀ p ∈ pts, ratB p = true := List.all_eq_true.1 hpa
      have h3 := containsRows_d rnn rows 98 [.ptr [.sl true ((pts.map RV.q).map encQ)]] (fun r => decide (rowQ r (pts.map RV.q) < 0)) (fun r hr => holds2_d r true (pts.map RV.q) (by have := (hS.r r hr).1; simp only [List.length_map]; omega) (by have := (hS.r r hr).1; omega) (hS.r r hr).2.1 (hS.r r hr).2.2 (fun p hp => by
        obtain ⟨x, hx, rfl⟩ := List.mem_map.1 hp
        exact ratB_FB (hall x hx)))
      have e3 : rows.all (fun r => !decide (rowQ r (pts.map RV.q) < 0)) = !rows.any (fun r => decide (rowQ r (pts.map RV.q) < 0)) := by
        rw [List.all_eq_not_any_not]; simp
      rw [e3]
      generalize rows.any (fun r => decide (rowQ r (pts.map RV.q) < 0)) = b at *
      clear e3 hpa he hpl
      simp only [ne_eq, not_true_eq_false, if_false]
      refine dcall_mk orders Tryz.func35 rfl (by kernel_rfl) (fun d => d == 9 || d == 11 || d == 37 || d == 40 || d == 27 || d == 35) (by kernel_rfl) rfl (fun hs => ?_)
      clear hs hS
      repeat' (first
        | (with_reducible first | refine sA ?_ ?_ | refine sB ?_ ?_ | refine sC ?_ ?_ | refine sD ?_ ?_ | refine sE ?_ ?_ | refine sF ?_ ?_) <;> intro h
        | refine clK_mk (h1) rfl ?_
        | refine clK_mk (h2) rfl ?_
        | simp only [go_sem, *])
      refine hpK_if ⟨by omega, by omega⟩ ?_
      repeat' (first
        | (with_reducible first | refine sA ?_ ?_ | refine sB ?_ ?_ | refine sC ?_ ?_ | refine sD ?_ ?_ | refine sE ?_ ?_ | refine sF ?_ ?_) <;> intro h
        | simp only [go_sem, *])
      refine loop_range pts (fun k s' => ∃ cur : List Tr, hget s'.hp (27, 0) = some ⟨(flat cur).map .t, 6, V, tRat, true, true⟩ ∧ hget s'.hp (9, 0) = some ⟨[.rf (27, 0) V], 1, 1, tRats, false, true⟩ ∧ cur.length = V ∧ (∀ x ∈ cur, elemOK true 6 x) ∧ cur.take k = (pts.take k).map (fun x => encQ x.q)) rfl rfl (by first | assumption | omega) (by kernel_rfl) (fun _ _ _ _ hj => hj) (fun _ _ _ hj => hj) ?_ (fun k x s' hx hd hk hJ hix hfr G hG => ?_) (fun s' hJ hfr => ?_)
      · refine ⟨List.replicate V (.agg qz), ?_, ?_, by simp, fun x hx => by rw [(List.mem_replicate.1 hx).2]; exact ⟨fun _ => rfl, (fun h => nomatch h), rfl⟩, rfl⟩
        · rw [← zrow_flat]; rfl
        · rfl
      · have c1 := hfr 1 (by kernel_rfl)
        have c9 := hfr 9 (by kernel_rfl)
        have c28 := hfr 28 (by kernel_rfl)
        clear hfr
        simp only [go_sem] at c1 c9 c28
        change _ = PV.ad (9, 0) 1 0 at c9
        obtain ⟨cur, h27, h9, hcl, hok, htk⟩ := hJ
        have hsp := ratB_spec (hall x (List.mem_of_getElem? hx))
        have hn : inI64 x.num := ⟨by omega, by omega⟩
        have hdn : inI64 x.den := ⟨by omega, by omega⟩
        have o1 := of_d x.num hn
        have o2 := of_d x.den hdn
        have q1 := quo_d x.num x.den (by omega) (fits_i64 hn) (fits_i64 hdn)
        rw [show Rat.divInt x.num x.den = x.q from rfl] at q1
        obtain ⟨y, hy, _⟩ := get_of_lt cur k (by omega)
        have he6 : ∀ z ∈ cur, z.cells.length = 6 := fun z hz => (hok z hz).2.2
        have hsz : (ratC x.q).length = 6 := ratC_length _
        have hspl : splice (List.map PV.t (flat cur)) (k * 6) ((ratC x.q).map PV.t) = List.map PV.t (flat (cur.set k (encQ x.q))) := flat_splice he6 (x := y) (y := encQ x.q) hy (ratC_length _)
        have hfl : (flat cur).length = V * 6 := by rw [flat_length _ 6 he6, hcl]
        have hkV : k < V := by omega
        have hkV1 : k + 1 ≤ V := hkV
        have hkV2 : k * 6 + 6 ≤ V * 6 := by omega
        have hset : (cur.set k (encQ x.q)).take (k + 1) = (pts.take (k + 1)).map (fun z => encQ z.q) := by
          rw [take_set_succ _ _ _ (by omega), htk, List.take_add_one, hx, List.map_append]; rfl
        have hok2 : ∀ z ∈ cur.set k (encQ x.q), elemOK true 6 z := fun z hz => by
          rcases List.mem_or_eq_of_mem_set hz with hz | rfl
          · exact hok z hz
          · exact ok_encQ _
        clear htk hok he6 hy hsp hn hdn hall
        repeat' (first
          | (with_reducible first | refine sA ?_ ?_ | refine sB ?_ ?_ | refine sC ?_ ?_ | refine sD ?_ ?_ | refine sE ?_ ?_ | refine sF ?_ ?_) <;> intro h
          | refine clK_mk (o1) rfl ?_
          | refine clK_mk (o2) rfl ?_
          | refine clK_mk (q1) rfl ?_
          | simp only [go_sem, *])
        refine hG _ ⟨cur.set k (encQ x.q), ?_, ?_, by simp [hcl], hok2, hset⟩
        · simp only [go_sem, h27]
        · simp only [go_sem, h9]
      · have c1 := hfr 1 (by kernel_rfl)
        have c9 := hfr 9 (by kernel_rfl)
        clear hfr
        simp only [go_sem] at c1 c9
        change _ = PV.ad (9, 0) 1 0 at c9
        obtain ⟨cur, h27, h9, hcl, hok, htk⟩ := hJ
        rw [List.take_of_length_le (by omega), List.take_of_length_le (Nat.le_refl _)] at htk
        have hcur : cur = (pts.map RV.q).map encQ := by rw [htk, List.map_map]; rfl
        have e1 : toTr s'.hp 4 (.rf (27, 0) V) = some (.sl true ((pts.map RV.q).map encQ)) := by
          rw [← hcur]; exact toTr_flat 3 hok hcl h27
        have hdep : toTr s'.hp dep (mkFn 98 [.ad (9, 0) 1 0]) = some (.fn 98 [.ptr [.sl true ((pts.map RV.q).map encQ)]]) := by
          refine toTr_fn_ad (k := 4) h9 rfl ?_
          show mapO (toTr s'.hp 4) [_] = _
          simp only [mapO, e1]
        clear e1 hcur htk hok
        repeat' (first
          | (with_reducible first | refine sA ?_ ?_ | refine sB ?_ ?_ | refine sC ?_ ?_ | refine sD ?_ ?_ | refine sE ?_ ?_ | refine sF ?_ ?_) <;> intro h
          | refine clK_sc (h3) (by simp only [go_sem, *]) rfl ?_
          | simp only [go_sem, *])
    · rw [if_neg hpt]
      simp only [ne_eq, not_true_eq_false, if_false]
      by_cases hl : (pts.length : Int) = (V : Int)
      · have g1 : ((pts.length : Int) != (V : Int)) = false := by rw [hl]; simp
        have g2 : pts.all ratB = false := by
          rw [Bool.eq_false_iff]
          intro h; exact hpt (by simp [pointB, hl, h])
        rw [g2] at h2
        clear hl hpt he
        refine dcall_mk orders Tryz.func35 rfl (by kernel_rfl) (fun d => d == 9 || d == 11 || d == 37 || d == 40 || d == 27 || d == 35) (by kernel_rfl) rfl (fun hs => ?_)
        clear hs hS
        repeat' (first
          | (with_reducible first | refine sA ?_ ?_ | refine sB ?_ ?_ | refine sC ?_ ?_ | refine sD ?_ ?_ | refine sE ?_ ?_ | refine sF ?_ ?_) <;> intro h
          | refine clK_mk (h1) rfl ?_
          | refine clK_mk (h2) rfl ?_
          | simp only [go_sem, *])
      · have g1 : ((pts.length : Int) != (V : Int)) = true := by simpa using hl
        clear hl hpt he
        refine dcall_mk orders Tryz.func35 rfl (by kernel_rfl) (fun d => d == 9 || d == 11 || d == 37 || d == 40 || d == 27 || d == 35) (by kernel_rfl) rfl (fun hs => ?_)
        clear hs hS
        repeat' (first
          | (with_reducible first | refine sA ?_ ?_ | refine sB ?_ ?_ | refine sC ?_ ?_ | refine sD ?_ ?_ | refine sE ?_ ?_ | refine sF ?_ ?_) <;> intro h
          | refine clK_mk (h1) rfl ?_
          | simp only [go_sem, *])
  · rw [if_pos he]
    have hb : (sysErr vars rows != 0) = true := by simpa using he
    generalize sysErr vars rows = e at *
    clear he
    refine dcall_mk orders Tryz.func35 rfl (by kernel_rfl) (fun d => d == 9 || d == 11 || d == 37 || d == 40 || d == 27 || d == 35) (by kernel_rfl) rfl (fun hs => ?_)
    clear hs
    repeat' (first
      | (with_reducible first | refine sA ?_ ?_ | refine sB ?_ ?_ | refine sC ?_ ?_ | refine sD ?_ ?_ | refine sE ?_ ?_ | refine sF ?_ ?_) <;> intro h
      | refine clK_mk (h1) rfl ?_
      | simp only [go_sem, *])
end YtajgclnahfmfmaaGreat
end Go.Vm
end
section
set_option linter.unusedSimpArgs false
set_option maxRecDepth 10000
namespace Go.Vm
open Go Go.Proofs Go.Whole
namespace YtajgclnahfmfmaaGreat
open Go.Proofs.Tryz
attribute [go_sem] Tryz.results89 Tryz.results34 Tryz.results25
def scaledR (x : RInt) (k : Nat) : RInt := ⟨decide (x.p * k ≠ 0), x.p * k, decide (x.n * k ≠ 0), x.n * k⟩
def stepR (x : RInt) (b : Nat) (c : Int) (q : RV) : RInt :=
  if (decide (c < 0) != decide (q.num < 0)) = true then { scaledR x q.den.natAbs with nn := decide (x.n * q.den.natAbs + b * q.num.natAbs * c.natAbs ≠ 0), n := x.n * q.den.natAbs + b * q.num.natAbs * c.natAbs }
  else { scaledR x q.den.natAbs with pn := decide (x.p * q.den.natAbs + b * q.num.natAbs * c.natAbs ≠ 0), p := x.p * q.den.natAbs + b * q.num.natAbs * c.natAbs }
def atB (k : Nat) (x : RInt) (b : Nat) : Prop := x.p ≤ B ^ (2 * (k + 1)) ∧ x.n ≤ B ^ (2 * (k + 1)) ∧ b ≤ B ^ (2 * k)
theorem len_pow {n k : Nat} (h : n ≤ B ^ (2 * k)) : (digs n).length ≤ 2 * k + 1 := digs_length_le (Nat.lt_of_le_of_lt h (Nat.pow_lt_pow_right (by rw [B_eq]; decide) (Nat.lt_succ_self _)))
theorem big_sum {Y y z : Nat} (hy : y ≤ Y * 85070591730234615865843651857942052864) (hz : z ≤ Y * 4835703278458516698824704) : y + z ≤ Y * 340282366920938463463374607431768211456 ∧ y ≤ Y * 340282366920938463463374607431768211456 := by omega
theorem atB.step {k : Nat} {x : RInt} {b : Nat} {c : Int} {q : RV} (h : atB k x b) (hq : ratB q = true) (hc : c.natAbs ≤ 1048576) : atB (k + 1) (stepR x b c q) (b * q.den.natAbs) := by
  obtain ⟨h1, h2, h3⟩ := h
  have hs := ratB_spec hq
  have hd : q.den.natAbs ≤ 4611686018427387904 := by omega
  have hn : q.num.natAbs ≤ 4611686018427387904 := by omega
  have k1 : b * q.num.natAbs * c.natAbs ≤ B ^ (2 * k) * 4835703278458516698824704 := by
    rw [Nat.mul_assoc]
    exact Nat.mul_le_mul h3 (Nat.mul_le_mul hn hc)
  have k2 : ∀ y, y ≤ B ^ (2 * (k + 1)) → y * q.den.natAbs ≤ B ^ (2 * k) * 85070591730234615865843651857942052864 := by
    intro y hy
    refine Nat.le_trans (Nat.mul_le_mul hy hd) ?_
    rw [B_pow2 k, Nat.mul_assoc]; exact Nat.le_refl _
  have e4 : B ^ (2 * (k + 1 + 1)) = B ^ (2 * k) * 340282366920938463463374607431768211456 := by rw [B_pow2 (k + 1), B_pow2 k, Nat.mul_assoc]
  have a1 := k2 _ h1
  have a2 := k2 _ h2
  have k3 : ∀ y, y ≤ B ^ (2 * k) * 85070591730234615865843651857942052864 → y + b * q.num.natAbs * c.natAbs ≤ B ^ (2 * k) * 340282366920938463463374607431768211456 ∧ y ≤ B ^ (2 * k) * 340282366920938463463374607431768211456 := fun y hy => big_sum hy k1
  obtain ⟨p1, p2⟩ := k3 _ a1
  obtain ⟨n1, n2⟩ := k3 _ a2
  refine ⟨?_, ?_, ?_⟩
  · rw [e4]; unfold stepR scaledR; split
    · exact p2
    · exact p1
  · rw [e4]; unfold stepR scaledR; split
    · exact n1
    · exact n2
  · rw [B_pow2 k]
    exact Nat.mul_le_mul h3 (by omega)
theorem atB.ok {k : Nat} {x : RInt} {b : Nat} (h : atB k x b) (hk : k ≤ 200) : (digs x.p).length ≤ 500 ∧ (digs x.n).length ≤ 500 ∧ (digs b).length ≤ 500 := by
  have h1 := len_pow h.1
  have h2 := len_pow h.2.1
  have h3 := len_pow h.2.2
  omega
end YtajgclnahfmfmaaGreat
end Go.Vm
end
section
set_option linter.unusedSimpArgs false
namespace Go.Vm
open Go Go.Proofs
namespace YtajgclnahfmfmaaGreat
open Go.Proofs.Tryz
theorem typed_int {t : TypeId} {k : IntKind} {xs : List Tr} (hu : Tryz.prog.underlying t = some (.int k)) (h : Typed Tryz.prog t xs) : ∃ n, xs = [.int k n] := by
  cases h with
  | int h => rw [hu] at h; injection h with h; injection h with h; subst h; exact ⟨_, rfl⟩
  | bool h => rw [hu] at h; cases h
  | str h => rw [hu] at h; cases h
  | snil h => rw [hu] at h; cases h
  | sl h => rw [hu] at h; cases h
  | struct h => rw [hu] at h; cases h
theorem typed_sl {α : Type} {t e : TypeId} {xs : List Tr} (hu : Tryz.prog.underlying t = some (.slice e)) (f : α → Tr) (hel : ∀ x, Typed Tryz.prog e x.cells → (aggB Tryz.prog e = some true → x = .agg x.cells) → x.cells.length = Tryz.prog.cellsOf e → (aggB Tryz.prog e = some false → x.cells = [x]) → ∃ a, x = f a) (h : Typed Tryz.prog t xs) : ∃ nn l, xs = [.sl nn (List.map f l)] := by
  cases h with
  | snil h => exact ⟨false, [], rfl⟩
  | @sl _ e' l h h1 h2 h3 h4 =>
    rw [hu] at h; injection h with h; injection h with h; subst h
    have : ∃ q : List α, l = q.map f := by
      induction l with
      | nil => exact ⟨[], rfl⟩
      | cons x l ih =>
        obtain ⟨q, rfl⟩ := ih (fun y hy => h1 y (by simp [hy])) (fun y hy => h2 y (by simp [hy])) (fun y hy => h3 y (by simp [hy])) (fun y hy => h4 y (by simp [hy]))
        obtain ⟨a, rfl⟩ := hel x (h1 x (by simp)) (h2 x (by simp)) (h3 x (by simp)) (h4 x (by simp))
        exact ⟨a :: q, rfl⟩
    obtain ⟨q, rfl⟩ := this
    exact ⟨true, q, rfl⟩
  | bool h => rw [hu] at h; cases h
  | int h => rw [hu] at h; cases h
  | str h => rw [hu] at h; cases h
  | struct h => rw [hu] at h; cases h
theorem typed_struct {t : TypeId} {fs : Array Field} {xs : List Tr} (hu : Tryz.prog.underlying t = some (.struct fs)) (h : Typed Tryz.prog t xs) : xs.length = Tryz.prog.cellsOf t ∧ ∀ f ∈ fs.toList, Typed Tryz.prog f.type ((xs.drop f.offset).take (Tryz.prog.cellsOf f.type)) := by
  cases h with
  | struct h h1 h2 => rw [hu] at h; injection h with h; injection h with h; subst h; exact ⟨h1, h2⟩
  | bool h => rw [hu] at h; cases h
  | int h => rw [hu] at h; cases h
  | str h => rw [hu] at h; cases h
  | snil h => rw [hu] at h; cases h
  | sl h => rw [hu] at h; cases h
theorem typed_ints {t : TypeId} {xs : List Tr} (hu : Tryz.prog.underlying t = some (.slice 2)) (h : Typed Tryz.prog t xs) : ∃ nn l, xs = [.sl nn (ints l)] := by
  refine typed_sl hu (Tr.int .i64) (fun x h1 _ _ h4 => ?_) h
  obtain ⟨n, hn⟩ := typed_int (k := .i64) (by kernel_rfl) h1
  have := h4 (by kernel_rfl)
  rw [hn] at this
  injection this with h5
  exact ⟨n, h5.symm⟩
theorem len2 {xs : List Tr} (h : xs.length = 2) : ∃ a b, xs = [a, b] := by
  match xs, h with
  | [a, b], _ => exact ⟨a, b, rfl⟩
theorem len4 {xs : List Tr} (h : xs.length = 4) : ∃ a b c d, xs = [a, b, c, d] := by
  match xs, h with
  | [a, b, c, d], _ => exact ⟨a, b, c, d, rfl⟩
theorem typed_row {xs : List Tr} (h : Typed Tryz.prog 37 xs) : ∃ r : Row, .agg xs = r.tr := by
  obtain ⟨hl, hf⟩ := typed_struct Tryz.underlying37 h
  obtain ⟨a, b, rfl⟩ := len2 (hl.trans (by kernel_rfl))
  simp only [List.mem_cons, List.not_mem_nil, or_false, forall_eq_or_imp, forall_eq] at hf
  simp only [go_sem] at hf
  obtain ⟨h1, h2⟩ := hf
  obtain ⟨nn, l, e1⟩ := typed_ints (by kernel_rfl) h1
  obtain ⟨n, e2⟩ := typed_int (k := .i64) (by kernel_rfl) h2
  injection e1 with e1; injection e2 with e2
  subst e1; subst e2
  exact ⟨⟨nn, l, n⟩, rfl⟩
theorem typed_rows {t : TypeId} {xs : List Tr} (hu : Tryz.prog.underlying t = some (.slice 37)) (h : Typed Tryz.prog t xs) : ∃ nn l, xs = [.sl nn (List.map Row.tr l)] := by
  refine typed_sl hu Row.tr (fun x h1 h2 _ _ => ?_) h
  obtain ⟨r, hr⟩ := typed_row h1
  exact ⟨r, (h2 (by kernel_rfl)).trans hr⟩
theorem typed_u64 {t : TypeId} {xs : List Tr} (hu : Tryz.prog.underlying t = some (.int .u64)) (h : Typed Tryz.prog t xs) : ∃ m : Nat, m < 18446744073709551616 ∧ xs = [u64T m] := by
  cases h with
  | int h hw =>
    rename_i k n
    rw [hu] at h; injection h with h; injection h with h; subst h
    simp [Lit.wf, IntKind.min, IntKind.max, IntKind.bits, IntKind.signed] at hw
    exact ⟨n.toNat, by omega, by simp only [u64T]; rw [Int.toNat_of_nonneg (by omega)]⟩
  | bool h => rw [hu] at h; cases h
  | str h => rw [hu] at h; cases h
  | snil h => rw [hu] at h; cases h
  | sl h => rw [hu] at h; cases h
  | struct h => rw [hu] at h; cases h
theorem typed_u64s {t : TypeId} {xs : List Tr} (hu : Tryz.prog.underlying t = some (.slice 38)) (h : Typed Tryz.prog t xs) : ∃ nn l, (∀ m ∈ l, m < 18446744073709551616) ∧ (nn = false → l = []) ∧ xs = [.sl nn (List.map u64T l)] := by
  have hnil : ∀ nn (l : List Tr), Typed Tryz.prog t [.sl nn l] → nn = false → l = [] := by
    intro nn l hh he
    cases hh with
    | snil h => rfl
    | sl h => cases he
    | struct h => rw [hu] at h; cases h
  obtain ⟨nn, l, e⟩ := typed_sl (α := {m : Nat // m < 18446744073709551616}) hu (fun m => u64T m.1) (fun x h1 _ _ h4 => by
    obtain ⟨m, hm, hx⟩ := typed_u64 (by kernel_rfl) h1
    have := h4 (by kernel_rfl)
    rw [hx] at this
    injection this with h5
    exact ⟨⟨m, hm⟩, h5.symm⟩) h
  refine ⟨nn, l.map Subtype.val, fun m hm => ?_, fun hn => ?_, ?_⟩
  · obtain ⟨y, _, rfl⟩ := List.mem_map.1 hm
    exact y.2
  · have := hnil nn _ (e ▸ h) hn
    rw [List.map_eq_nil_iff] at this
    rw [this]; rfl
  · rw [e, List.map_map]; rfl
theorem typed_cert {xs : List Tr} (h : Typed Tryz.prog 40 xs) : ∃ f : Cert, f.scale < 18446744073709551616 ∧ (∀ m ∈ f.ms, m < 18446744073709551616) ∧ (f.mnn = false → f.ms = []) ∧ .agg xs = f.tr := by
  obtain ⟨hl, hf⟩ := typed_struct Tryz.underlying40 h
  obtain ⟨a, b, rfl⟩ := len2 (hl.trans (by kernel_rfl))
  simp only [List.mem_cons, List.not_mem_nil, or_false, forall_eq_or_imp, forall_eq] at hf
  simp only [go_sem] at hf
  obtain ⟨h1, h2⟩ := hf
  obtain ⟨m, hm, e1⟩ := typed_u64 (by kernel_rfl) h1
  obtain ⟨nn, l, h3, h4, e2⟩ := typed_u64s (by kernel_rfl) h2
  injection e1 with e1; injection e2 with e2
  subst e1; subst e2
  exact ⟨⟨m, nn, l⟩, hm, h3, h4, rfl⟩
end YtajgclnahfmfmaaGreat
end Go.Vm
end
section
set_option linter.unusedSimpArgs false
set_option maxRecDepth 10000
namespace Go.Vm
open Go Go.Proofs Go.Whole
section
variable {H : Type} {enc : TypeId × Value → H} {P : Program} {w : World} {base : Nat} {spare : Nat → Bool} {held : Bool}
theorem arg_len {t e : TypeId} {a : Option Addr} {len cap : Nat} {d : DataW H} {ps : List MemPlace} (hu : P.underlying t = some (.slice e)) (h : DataW.Trod enc P w base spare held t (.slice a len cap) d ps) : len = 0 ∨ ∃ el sp, d = .slice el sp ∧ el.length = len := by
  obtain ⟨fuel, hf⟩ := h
  cases fuel with
  | zero => simp [DataW.trod] at hf
  | succ fuel =>
    unfold DataW.trod at hf
    rw [hu] at hf
    cases a with
    | none =>
      simp only [Value.cells] at hf
      split at hf <;> simp_all
    | some a =>
      simp only [Value.cells] at hf
      right
      split at hf <;> try (cases hf; done)
      cases hmm : (List.range len).mapM (fun i => (w.cells? base (a.add (i * P.cellsOf e)) (P.cellsOf e)).bind (DataW.trod enc P w base spare held fuel e)) with
      | none => rw [hmm] at hf; simp at hf
      | some ys =>
        rw [hmm] at hf
        have hyl := mapM_some_length hmm
        simp only [Option.bind_some] at hf
        obtain ⟨rest, _, hr⟩ := Option.map_eq_some_iff.1 hf
        simp only [Prod.mk.injEq] at hr
        exact ⟨_, _, hr.1.symm, by rw [List.length_map, hyl, List.length_range]⟩
theorem reads_len {L : Nat → Prop} {nn : Bool} {l : List Tr} {a : Option Addr} {len cap : Nat} (h : Reads w L (.sl nn l) (.slice a len cap)) : l.length = len := by
  cases h <;> rfl
end
namespace YtajgclnahfmfmaaGreat
open Go.Proofs.Tryz
theorem append_rf2 {P : Program} {mu : Nat → Bool} {h : Hp} {d : Option Tmp} {t e : TypeId} {id : Id} {n by_ : Nat} {nn' : Bool} {cs : List PV} {ag : Bool} {xs : List Tr} {esz : Nat} (hel : elemB P t = some e) (hsz : P.cellsOf e = esz) (hz : (zeroB P e).map List.length = some esz) (h1 : Nat.blt 0 esz = true) (hby : P.bytesOf e = by_)
    (hx : ∀ x ∈ xs, x.cells.length = esz) (hg : hget h id = some ⟨cs, esz, n, e, ag, true⟩) (hb : (n + xs.length) * by_ ≤ 140737488355328 ∧ n + xs.length ≤ 4611686018427387904) (hne : xs ≠ []) :
    appendPV P mu d t (.rf id n) (.t (.sl nn' xs)) h = some (.rf id (n + xs.length), hset h id ⟨cs ++ (flat xs).map .t, esz, n + xs.length, e, ag, true⟩) := by
  have hpos : 0 < esz := by simp [Nat.blt] at h1; omega
  have hzz : ∃ z, zeroB P e = some z ∧ z.length = esz := by
    cases hzz : zeroB P e with
    | none => rw [hzz] at hz; cases hz
    | some z => rw [hzz] at hz; exact ⟨z, rfl, by simpa using hz⟩
  obtain ⟨z, hz1, hz2⟩ := hzz
  have hfl := flat_length xs esz hx
  have hl0 : xs.length ≠ 0 := fun e => hne (List.eq_nil_of_length_eq_zero e)
  unfold appendPV
  simp only [hel, hz1, srcPV, hfl, hsz, if_true, hz2, true_and, hg, hby]
  rw [if_pos hpos, if_pos hb, if_neg hl0]
theorem cloneRows_i2 (l : List Row) (h : Hp) (hlen : l.length ≤ 4398046511104) :
    ICall Tryz.prog 168 [.t (.sl true (l.map Row.tr))] h (fun v h' => v = .rf (hnext h 5) l.length ∧ h' = hnew h 5 ⟨(flat (l.map Row.tr)).map .t, 2, l.length, tRow, true, true⟩) := by
  by_cases hne : l = []
  · subst hne
    exact cloneRows_i' [] h (by simp)
  · have hempty : ¬ l = [] := hne
    refine icall_mk orders Tryz.func168 rfl (by kernel_rfl) (fun d => d == 5 || d == 7) (by kernel_rfl) rfl (fun hs hlen => ?_)
    clear hs
    repeat' (first
      | (with_reducible first | refine sA ?_ ?_ | refine sB ?_ ?_ | refine sC ?_ ?_ | refine sD ?_ ?_ | refine sE ?_ ?_ | refine sF ?_ ?_) <;> intro h
      | simp only [go_sem, *])
    rw [append_rf2 (esz := 2) (e := tRow) (ag := true) (by_ := 32) (by kernel_rfl) (by kernel_rfl) (by kernel_rfl) rfl (by kernel_rfl) (fun x hx => (ok_rows l x hx).2.2) (hget_new _ _) (by rw [List.length_map]; omega) (by simpa using hne)]
    simp only [Nat.zero_add, List.length_map, List.nil_append, hset_new]
    repeat' (first
      | (with_reducible first | refine sA ?_ ?_ | refine sB ?_ ?_ | refine sC ?_ ?_ | refine sD ?_ ?_ | refine sE ?_ ?_ | refine sF ?_ ?_) <;> intro h
      | simp only [go_sem, *])
theorem implied_d2 (vars : Int) (rnn : Bool) (rows : List Row) (row : Row) (hlen : rows.length ≤ 4398046511103) : DCall Tryz.prog 81 [i64 vars, .sl rnn (rows.map Row.tr), row.tr] (i64 (sysErr vars (rows ++ [row]))) := by
  by_cases hsm : rows.length ≤ 900000
  · exact implied_d vars rnn rows row hsm
  refine dcall_wf (enters' _ (by kernel_rfl)) fun hw => ?_
  have hnil : rnn = false → rows = [] := fun h => by
    subst h
    simp [wfL, Tr.wf] at hw
    exact hw.1.1
  cases rnn with
  | false =>
    have := hnil rfl
    subst this
    simp at hsm
  | true =>
    have hc := lcheck_d vars true (rows ++ [row])
    have hi := cloneRows_i2 rows (fun _ => []) (by omega)
    clear hw hnil hsm
    refine dcall_mk orders Tryz.func81 rfl (by kernel_rfl) (fun d => d == 9 || d == 13) (by kernel_rfl) rfl (fun hs => ?_)
    clear hs
    repeat' (first
      | (with_reducible first | refine sA ?_ ?_ | refine sB ?_ ?_ | refine sC ?_ ?_ | refine sD ?_ ?_ | refine sE ?_ ?_ | refine sF ?_ ?_) <;> intro h
      | simp only [go_sem, *])
    refine clK_ix hi rfl ?_
    repeat' (first
      | (with_reducible first | refine sA ?_ ?_ | refine sB ?_ ?_ | refine sC ?_ ?_ | refine sD ?_ ?_ | refine sE ?_ ?_ | refine sF ?_ ?_) <;> intro h
      | simp only [go_sem, *])
    rw [append_rf2 (esz := 2) (e := tRow) (ag := true) (by_ := 32) (by kernel_rfl) (by kernel_rfl) (by kernel_rfl) rfl (by kernel_rfl) (fun x hx => by rw [List.mem_singleton.1 hx]; rfl) (hget_new _ _) (by simp; omega) (by simp)]
    have hcells : List.map PV.t (flat (List.map Row.tr rows)) ++ List.map PV.t (flat [Tr.agg [.sl row.nn (List.map (Tr.int .i64) row.coefs), .int .i64 row.const]]) = List.map PV.t (flat ((rows ++ [row]).map Row.tr)) := by
      rw [List.map_append, flat_append, List.map_append]; rfl
    rw [hcells, hset_new]
    have hdep : ∀ n, n = (rows ++ [row]).length → toTr (hnew (fun _ => []) 5 ⟨List.map PV.t (flat ((rows ++ [row]).map Row.tr)), 2, n, tRow, true, true⟩) dep (.rf (hnext (fun _ => []) 5) n) = some (.sl true ((rows ++ [row]).map Row.tr)) := fun n hn => toTr_flat 5 (ok_rows _) (by simp [hn]) (hget_new _ _)
    have hdep2 := hdep (rows.length + 1) (by simp)
    simp only [List.length_cons, List.length_nil]
    repeat' (first
      | (with_reducible first | refine sA ?_ ?_ | refine sB ?_ ?_ | refine sC ?_ ?_ | refine sD ?_ ?_ | refine sE ?_ ?_ | refine sF ?_ ?_) <;> intro h
      | simp only [go_sem, *])
    refine clK_fx hc (by simp only [go_sem, hdep2]) rfl ?_
    repeat' (first
      | (with_reducible first | refine sA ?_ ?_ | refine sB ?_ ?_ | refine sC ?_ ?_ | refine sD ?_ ?_ | refine sE ?_ ?_ | refine sF ?_ ?_) <;> intro h
      | simp only [go_sem, *])
theorem lproves_bad2 (vars : Int) (rnn : Bool) (rows : List Row) (row : Row) (f : Cert) (hlen : rows.length ≤ 4398046511103) (he : sysErr vars (rows ++ [row]) ≠ 0) : DCall Tryz.prog 37 [i64 vars, .sl rnn (rows.map Row.tr), row.tr, f.tr] (.tup [.bool false, i64 (sysErr vars (rows ++ [row]))]) := by
  have hck := implied_d2 vars rnn rows row hlen
  have g : (sysErr vars (rows ++ [row]) != 0) = true := by simpa using he
  generalize sysErr vars (rows ++ [row]) = e at *
  clear he
  refine dcall_mk orders Tryz.func37 rfl (by kernel_rfl) (fun d => d == 12 || d == 13 || d == 33 || d == 38) (by kernel_rfl) rfl (fun hs => ?_)
  clear hs
  repeat' (first
    | (with_reducible first | refine sA ?_ ?_ | refine sB ?_ ?_ | refine sC ?_ ?_ | refine sD ?_ ?_ | refine sE ?_ ?_ | refine sF ?_ ?_) <;> intro h
    | refine clK_mk (hck) rfl ?_
    | simp only [go_sem, *])
theorem lproves_d (vars : Int) (rnn : Bool) (rows : List Row) (row : Row) (f : Cert) (hlen : rows.length ≤ 4398046511103) (hnil : f.mnn = false → f.ms = []) :
    DCall Tryz.prog 37 [i64 vars, .sl rnn (rows.map Row.tr), row.tr, f.tr] (.tup [.bool (lprovR vars rows row f).1, i64 (lprovR vars rows row f).2]) := by
  unfold lprovR
  by_cases he : sysErr vars (rows ++ [row]) = 0
  · rw [if_neg (fun h => h he)]
    obtain ⟨V, rfl, hS⟩ := sys_of he
    have hn := hS.n
    simp only [List.length_append, List.length_cons, List.length_nil] at hn
    obtain ⟨sc, mnn, ms⟩ := f
    simp only at hnil
    by_cases hc : okCert rows ⟨sc, mnn, ms⟩ = true
    · rw [if_pos hc]
      simp only [okCert, okMults, Bool.and_eq_true, decide_eq_true_eq, List.all_eq_true] at hc
      exact lproves_ok V rnn rows row sc mnn ms he hS hc.1.1 (by
        simp only [List.all_eq_true, List.mem_append, List.mem_singleton, decide_eq_true_eq]
        exact fun m hm => hm.elim (fun hm => hc.1.2 m hm) (fun hm => hm ▸ hc.2)) hnil
    · rw [if_neg hc]
      by_cases hl : ms.length = rows.length
      · refine lproves_big V rnn rows row sc mnn ms (by omega) he hl ?_ hnil
        rw [Bool.eq_false_iff]
        intro ha
        simp only [List.all_eq_true, List.mem_append, List.mem_singleton, decide_eq_true_eq] at ha
        exact hc (by simp only [okCert, okMults, Bool.and_eq_true, decide_eq_true_eq, List.all_eq_true]; exact ⟨⟨hl, fun m hm => ha m (.inl hm)⟩, ha sc (.inr rfl)⟩)
      · exact lproves_len V rnn rows row ⟨sc, mnn, ms⟩ (by omega) he hl
  · rw [if_pos he]
    exact lproves_bad2 vars rnn rows row f hlen he
end YtajgclnahfmfmaaGreat
end Go.Vm
end
section
set_option linter.unusedSimpArgs false
set_option maxRecDepth 10000
namespace Go.Vm
open Go Go.Proofs Go.Whole
namespace YtajgclnahfmfmaaGreat
open Go.Proofs.Tryz
attribute [go_sem] Tryz.results5 Tryz.results6
theorem holdsR_true {vars : Int} {rows : List Row} {pts : List RV} (h1 : sysErr vars rows = 0) (h2 : pointB vars pts = true) : holdsR vars rows pts = (rows.all (fun r => !decide (rowQ r (pts.map RV.q) < 0)), 0) := by
  unfold holdsR; rw [if_neg (fun h => h h1), if_pos h2]
theorem sysErr_one {vars : Int} {rows : List Row} {row : Row} (h : sysErr vars (rows ++ [row]) = 0) : sysErr vars [row] = 0 := by
  obtain ⟨V, rfl, hS⟩ := sys_of h
  unfold sysErr at h ⊢
  split at h
  · cases h
  · rename_i g1
    rw [if_neg g1]
    split at h
    · cases h
    · rw [if_neg (by simp)]
      split at h
      · rename_i g3
        rw [List.all_append, Bool.and_eq_true] at g3
        rw [if_pos g3.2]
      · cases h
theorem LinearSound_d (vars : Int) (rnn : Bool) (rows : List Row) (row : Row) (f : Cert) (pnn : Bool) (pts : List RV) (hlen : rows.length ≤ 4398046511103) (hsc : f.scale < 18446744073709551616) (hms : ∀ m ∈ f.ms, m < 18446744073709551616) (hnil : f.mnn = false → f.ms = []) : DCall Tryz.prog 6 [i64 vars, .sl rnn (rows.map Row.tr), row.tr, f.tr, .sl pnn (pts.map RV.tr)] (.bool true) := by
  have h1 := lholds_d vars rnn rows pnn pts
  have h3 := alive25_d
  have h4 := lrefutes_d vars rnn rows f.mnn f.ms
  have h5 := lproves_d vars rnn rows row f hlen hnil
  have h6 := lholds_d vars true [row] pnn pts
  by_cases hgood : sysErr vars rows = 0 ∧ pointB vars pts = true ∧ rows.all (fun r => !decide (rowQ r (pts.map RV.q) < 0)) = true
  · obtain ⟨g1, g2, g3⟩ := hgood
    rw [holdsR_true g1 g2, g3] at h1
    obtain ⟨V, rfl, hS⟩ := sys_of g1
    have hp : ∀ r ∈ rows, 0 ≤ rowQ r (pts.map RV.q) := fun r hr => by
      have := List.all_eq_true.1 g3 r hr
      simp only [Bool.not_eq_true', decide_eq_false_iff_not] at this
      exact Rat.not_lt.1 this
    have hr : ∀ r ∈ rows, r.coefs.length = V := fun r hr => (hS.r r hr).1
    have k1 : (lrefR V rows f.ms).1 = false := by
      unfold lrefR
      rw [if_neg (fun h => h g1)]
      split
      · rw [Int.toNat_natCast]; exact contra_sound hr hp
      · rfl
    rw [k1] at h4
    generalize (lrefR V rows f.ms).2 = e2 at *
    cases hb : (lprovR V rows row f).1 with
    | false =>
      rw [hb] at h5
      generalize (lprovR V rows row f).2 = e3 at *
      clear hS g1 g2 g3 hp hr k1 hb hms hsc hnil hlen
      generalize (holdsR V [row] pts).1 = b at *
      generalize (holdsR V [row] pts).2 = e4 at *
      obtain ⟨sc, mnn, ms⟩ := f
      refine dcall_mk orders Tryz.func6 rfl (by kernel_rfl) noMu (by kernel_rfl) rfl (fun hs => ?_)
      clear hs
      repeat' (first
        | (with_reducible first | refine sA ?_ ?_ | refine sB ?_ ?_ | refine sC ?_ ?_ | refine sD ?_ ?_ | refine sE ?_ ?_ | refine sF ?_ ?_) <;> intro h
        | refine clK_mk (h1) rfl ?_
        | refine clK_mk (h4) rfl ?_
        | refine clK_mk (h5) rfl ?_
        | refine clK_mk (h6) rfl ?_
        | refine clK_mk (h3) rfl ?_
        | simp only [go_sem, *, beq_self_eq_true])
    | true =>
      rw [hb] at h5
      have hv : sysErr V (rows ++ [row]) = 0 ∧ 0 ≤ rowQ row (pts.map RV.q) := by
        unfold lprovR at hb
        split at hb
        · cases hb
        · rename_i g4
          have g4 : sysErr V (rows ++ [row]) = 0 := Decidable.not_not.1 g4
          refine ⟨g4, ?_⟩
          obtain ⟨V', hV', hS'⟩ := sys_of g4
          have hVV : V' = V := by omega
          subst hVV
          split at hb
          · rw [Int.toNat_natCast] at hb
            exact proves_sound hr (hS'.left).2.1 hp hb
          · cases hb
      have k3 : [row].all (fun r => !decide (rowQ r (pts.map RV.q) < 0)) = true := by
        rw [List.all_cons, decide_eq_false (Rat.not_lt.2 hv.2)]; rfl
      rw [holdsR_true (sysErr_one hv.1) g2, k3] at h6
      generalize (lprovR V rows row f).2 = e3 at *
      clear hS g1 g2 g3 hp hr k1 hb hms hsc hnil hlen k3 hv
      obtain ⟨sc, mnn, ms⟩ := f
      refine dcall_mk orders Tryz.func6 rfl (by kernel_rfl) noMu (by kernel_rfl) rfl (fun hs => ?_)
      clear hs
      repeat' (first
        | (with_reducible first | refine sA ?_ ?_ | refine sB ?_ ?_ | refine sC ?_ ?_ | refine sD ?_ ?_ | refine sE ?_ ?_ | refine sF ?_ ?_) <;> intro h
        | refine clK_mk (h1) rfl ?_
        | refine clK_mk (h4) rfl ?_
        | refine clK_mk (h5) rfl ?_
        | refine clK_mk (h6) rfl ?_
        | refine clK_mk (h3) rfl ?_
        | simp only [go_sem, *, beq_self_eq_true])
  · have hbad : (holdsR vars rows pts).2 ≠ 0 ∨ ((holdsR vars rows pts).2 = 0 ∧ (holdsR vars rows pts).1 = false) := by
      unfold holdsR
      split
      · rename_i h; exact .inl h
      · rename_i h
        split
        · rename_i h2
          right
          refine ⟨rfl, ?_⟩
          rw [Bool.eq_false_iff]
          exact fun h3 => hgood ⟨Decidable.not_not.1 h, h2, h3⟩
        · left; decide
    clear hgood h4 h5 h6 hms hsc hnil hlen
    generalize (holdsR vars rows pts).1 = b at *
    generalize (holdsR vars rows pts).2 = e at *
    obtain ⟨sc, mnn, ms⟩ := f
    rcases hbad with hne | ⟨rfl, rfl⟩
    · have hb2 : (e != 0) = true := by simpa using hne
      refine dcall_mk orders Tryz.func6 rfl (by kernel_rfl) noMu (by kernel_rfl) rfl (fun hs => ?_)
      clear hs
      repeat' (first
        | (with_reducible first | refine sA ?_ ?_ | refine sB ?_ ?_ | refine sC ?_ ?_ | refine sD ?_ ?_ | refine sE ?_ ?_ | refine sF ?_ ?_) <;> intro h
        | refine clK_mk (h1) rfl ?_
        | refine clK_mk (h3) rfl ?_
        | simp only [go_sem, *, beq_self_eq_true])
    · skip
      refine dcall_mk orders Tryz.func6 rfl (by kernel_rfl) noMu (by kernel_rfl) rfl (fun hs => ?_)
      clear hs
      repeat' (first
        | (with_reducible first | refine sA ?_ ?_ | refine sB ?_ ?_ | refine sC ?_ ?_ | refine sD ?_ ?_ | refine sE ?_ ?_ | refine sF ?_ ?_) <;> intro h
        | refine clK_mk (h1) rfl ?_
        | refine clK_mk (h3) rfl ?_
        | simp only [go_sem, *, beq_self_eq_true])
theorem typed_rv {xs : List Tr} (h : Typed Tryz.prog 140 xs) : ∃ r : RV, .agg xs = r.tr := by
  obtain ⟨hl, hf⟩ := typed_struct Tryz.underlying140 h
  obtain ⟨a, b, rfl⟩ := len2 (hl.trans (by kernel_rfl))
  simp only [List.mem_cons, List.not_mem_nil, or_false, forall_eq_or_imp, forall_eq] at hf
  simp only [go_sem] at hf
  obtain ⟨h1, h2⟩ := hf
  obtain ⟨n, e1⟩ := typed_int (k := .i64) (by kernel_rfl) h1
  obtain ⟨d, e2⟩ := typed_int (k := .i64) (by kernel_rfl) h2
  injection e1 with e1; injection e2 with e2
  subst e1; subst e2
  exact ⟨⟨n, d⟩, rfl⟩
theorem typed_rats {t : TypeId} {xs : List Tr} (hu : Tryz.prog.underlying t = some (.slice 140)) (h : Typed Tryz.prog t xs) : ∃ nn l, xs = [.sl nn (List.map RV.tr l)] := by
  refine typed_sl hu RV.tr (fun x h1 h2 _ _ => ?_) h
  obtain ⟨r, hr⟩ := typed_rv h1
  exact ⟨r, (h2 (by kernel_rfl)).trans hr⟩
end YtajgclnahfmfmaaGreat
end Go.Vm
end
section
namespace Go.Proofs.YtajgclnahfmfmaaGreat.lb
open Go.ChangeShapes Go.WideShapes Go.ChangeAt Go.RowKit
theorem and_t {a b : Bool} (h1 : a = true) (h2 : b = true) : (a && b) = true := by rw [h1, h2]; rfl
theorem own : ownKnob Tryz.prog.godebug = none := by kernel_rfl
theorem laidOut : laidOutB Tryz.prog = true := by kernel_rfl
theorem rowed : mapsRowed Tryz.prog = true := by kernel_rfl
theorem enters : Tryz.prog.mayEnter = true := by kernel_rfl
theorem lifts : (Rows.linearHoldsRow.lifted == Tryz.prog.liftsFinal) = true := by kernel_rfl
theorem made : (Tryz.prog.make == some Rows.linearHoldsRow.make) = true := by kernel_rfl
theorem keys : (Rows.linearHoldsRow.plainKeys == Tryz.prog.plainKeys) = true := by kernel_rfl
theorem heard : Tryz.prog.stopsHeard = true := by kernel_rfl
end Go.Proofs.YtajgclnahfmfmaaGreat.lb
end
