import Derived.Test.YtajgclnahfmfmaaGreatMH4
set_option linter.unusedSimpArgs false
set_option linter.unusedVariables false
section
set_option linter.unusedSimpArgs false
set_option maxRecDepth 10000
namespace Go.Vm
open Go Go.Proofs Go.Whole
namespace YtajgclnahfmfmaaGreat
open Go.Proofs.Tryz
attribute [go_sem] Tryz.results99 Tryz.results35 Tryz.results98
abbrev tRats : TypeId := 124
theorem B2 : B ^ 2 = 18446744073709551616 := by decide
theorem B4 : B ^ 4 = 340282366920938463463374607431768211456 := by decide
def FB (q : Rat) (n d : Nat) : Prop := q.num.natAbs ≤ n ∧ q.den ≤ d
theorem FB.mono {q : Rat} {n d n' d' : Nat} (h : FB q n d) (h1 : n ≤ n') (h2 : d ≤ d') : FB q n' d' := ⟨Nat.le_trans h.1 h1, Nat.le_trans h.2 h2⟩
theorem FB.divInt {a b : Int} (hb : 0 < b) {n d : Nat} (h1 : a.natAbs ≤ n) (h2 : b.natAbs ≤ d) : FB (Rat.divInt a b) n d := by
  obtain ⟨e1, e2⟩ := divInt_num (a := a) hb
  refine ⟨?_, ?_⟩
  · rw [e1, Int.natAbs_tdiv]; exact Nat.le_trans (Nat.div_le_self _ _) h1
  · have h3 : ((Rat.divInt a b).den : Int).natAbs ≤ b.natAbs := by rw [e2, Int.natAbs_tdiv]; exact Nat.div_le_self _ _
    rw [Int.natAbs_natCast] at h3
    omega
theorem den_mul_pos (p q : Rat) : 0 < (p.den : Int) * q.den := by
  have := Nat.mul_pos p.den_pos q.den_pos
  rw [← Int.natCast_mul]; omega
theorem FB.add {p q : Rat} {n d n' d' : Nat} (h : FB p n d) (h' : FB q n' d') : FB (p + q) (n * d' + n' * d) (d * d') := by
  rw [add_eq]
  refine FB.divInt (den_mul_pos p q) ?_ ?_
  · have a1 : (p.num * q.den).natAbs ≤ n * d' := by rw [Int.natAbs_mul, Int.natAbs_natCast]; exact Nat.mul_le_mul h.1 h'.2
    have a2 : (q.num * p.den).natAbs ≤ n' * d := by rw [Int.natAbs_mul, Int.natAbs_natCast]; exact Nat.mul_le_mul h'.1 h.2
    omega
  · rw [Int.natAbs_mul, Int.natAbs_natCast, Int.natAbs_natCast]; exact Nat.mul_le_mul h.2 h'.2
theorem FB.mul {p q : Rat} {n d n' d' : Nat} (h : FB p n d) (h' : FB q n' d') : FB (p * q) (n * n') (d * d') := by
  rw [mul_eq]
  refine FB.divInt (den_mul_pos p q) ?_ ?_
  · rw [Int.natAbs_mul]; exact Nat.mul_le_mul h.1 h'.1
  · rw [Int.natAbs_mul, Int.natAbs_natCast, Int.natAbs_natCast]; exact Nat.mul_le_mul h.2 h'.2
theorem FB.int (z : Int) : FB (z : Rat) z.natAbs 1 := ⟨Nat.le_refl _, Nat.le_refl _⟩
theorem FB.fits {q : Rat} {n d k : Nat} (h : FB q n d) (hn : n < B ^ k) (hd : d < B ^ k) (hk : k ≤ 100000) : qfits q :=
  ⟨Nat.le_trans (digs_length_le (Nat.lt_of_le_of_lt h.1 hn)) hk, Nat.le_trans (digs_length_le (Nat.lt_of_le_of_lt h.2 hd)) hk⟩
theorem B_pow2 (k : Nat) : B ^ (2 * (k + 1)) = B ^ (2 * k) * 18446744073709551616 := by
  rw [Nat.mul_add, Nat.pow_add, show B ^ (2 * 1) = 18446744073709551616 by decide]
theorem B_pow_pos (k : Nat) : 0 < B ^ k := Nat.pow_pos B_pos
def partB (k : Nat) (q : Rat) : Prop := FB q (B ^ (2 * (k + 1))) (B ^ (2 * k))
theorem partB.fits {k : Nat} {q : Rat} (h : partB k q) (hk : k ≤ 1000) : qfits q := by
  have h1 : B ^ (2 * (k + 1)) < B ^ (2 * (k + 1) + 1) := Nat.pow_lt_pow_right (by rw [B_eq]; decide) (Nat.lt_succ_self _)
  have h2 : B ^ (2 * k) ≤ B ^ (2 * (k + 1)) := Nat.pow_le_pow_right B_pos (by omega)
  exact FB.fits (k := 2 * (k + 1) + 1) h h1 (by omega) (by omega)
theorem partB.step {k : Nat} {q p : Rat} {a : Int} (h : partB k q) (ha : a.natAbs ≤ 1048576) (hp : FB p 4611686018427387904 4611686018427387904) : partB (k + 1) (q + (a : Rat) * p) := by
  have h1 := (FB.int a).mul hp
  have h2 := FB.add h h1
  have hB := B_pow_pos (2 * k)
  refine h2.mono ?_ ?_
  · rw [B_pow2 (k + 1), B_pow2 k]
    have e2 : a.natAbs * 4611686018427387904 * B ^ (2 * k) ≤ B ^ (2 * k) * 4835703278458516698824704 := by
      rw [Nat.mul_comm]
      exact Nat.mul_le_mul_left _ (by omega)
    have e3 : B ^ (2 * k) * 18446744073709551616 * 4611686018427387904 = B ^ (2 * k) * 85070591730234615865843651857942052864 := by rw [Nat.mul_assoc]
    have e4 : B ^ (2 * k) * 18446744073709551616 * 18446744073709551616 = B ^ (2 * k) * 340282366920938463463374607431768211456 := by rw [Nat.mul_assoc]
    rw [e3, e4]
    clear e3 e4
    generalize B ^ (2 * k) = b at *
    generalize a.natAbs * 4611686018427387904 * b = y at *
    omega
  · rw [B_pow2 k, Nat.one_mul]; exact Nat.mul_le_mul_left _ (by omega)
theorem partB.skip {k : Nat} {q : Rat} (h : partB k q) : partB (k + 1) q := by
  have hB := B_pow_pos (2 * k)
  refine FB.mono h ?_ ?_
  · exact Nat.pow_le_pow_right B_pos (by omega)
  · exact Nat.pow_le_pow_right B_pos (by omega)
theorem rat_nonneg_iff (q : Rat) : decide (q.num.sign < 0) = decide (q < 0) := by
  rw [Bool.eq_iff_iff, decide_eq_true_iff, decide_eq_true_iff, Int.sign_neg_iff]
  have := Rat.num_nonneg (q := q)
  constructor
  · intro h
    refine Rat.not_le.1 fun hh => ?_
    have := this.2 hh; omega
  · intro h
    refine Int.not_le.1 fun hh => ?_
    exact Rat.not_le.2 h (this.1 hh)
theorem lvalue_d (r : Row) (pnn : Bool) (pts : List Rat) (hl : pts.length = r.coefs.length) (hlen : r.coefs.length ≤ 128) (hc : smallB r.const = true) (hcs : ∀ c ∈ r.coefs, smallB c = true) (hp : ∀ p ∈ pts, FB p 4611686018427387904 4611686018427387904) :
    DCall Tryz.prog 99 [r.tr, .sl pnn (pts.map encQ)] (encQ (rowQ r pts)) := by
  refine dcall_mk orders Tryz.func99 rfl (by kernel_rfl) (fun d => d == 4 || d == 5) (by kernel_rfl) rfl (fun hs => ?_)
  clear hs
  have hc1 := smallB_abs hc
  have w0 := whole_d r.const ⟨by omega, by omega⟩
  repeat' (first
    | (with_reducible first | refine sA ?_ ?_ | refine sB ?_ ?_ | refine sC ?_ ?_ | refine sD ?_ ?_ | refine sE ?_ ?_ | refine sF ?_ ?_) <;> intro h
    | refine clK_mk (w0) rfl ?_
    | simp only [go_sem, *])
  refine loop_range r.coefs (fun k s' => ∃ acc : Rat, hget s'.hp (5, 0) = some ⟨(ratC acc).map .t, 6, 1, tRat, true, true⟩ ∧ hget s'.hp (4, 0) = some ⟨[i64 0, i64 0, .sl false [], .bool false, .sl false [], .bool false].map .t, 6, 1, tRat, true, true⟩ ∧ partB k acc ∧ rowQ r pts = acc + dotQ (r.coefs.drop k) (pts.drop k)) rfl rfl (by first | assumption | omega) (by kernel_rfl) (fun _ _ _ _ hj => hj) (fun _ _ _ hj => hj) ?_ (fun k x s' hx hd hk hJ hix hfr G hG => ?_) (fun s' hJ hfr => ?_)
  · refine ⟨(r.const : Rat), ?_, ?_, ?_, ?_⟩
    · rfl
    · rfl
    · exact ⟨by show r.const.natAbs ≤ B ^ 2; rw [B2]; omega, by show 1 ≤ B ^ (2 * 0); decide⟩
    · unfold rowQ; simp only [List.drop_zero]; grind
  · have c1 := hfr 1 (by kernel_rfl)
    have c5 := hfr 5 (by kernel_rfl)
    have c12 := hfr 12 (by kernel_rfl)
    clear hfr
    simp only [go_sem] at c1 c5 c12
    change _ = PV.ad (5, 0) 1 0 at c5
    obtain ⟨acc, h5, h4, hpb, hJ⟩ := hJ
    obtain ⟨p, hp1, hp2⟩ := get_of_lt pts k (by omega)
    rw [hd, hp2, dotQ] at hJ
    have hxs := smallB_abs (hcs x (List.mem_of_getElem? hx))
    have hpp := hp p (List.mem_of_getElem? hp1)
    by_cases h0 : x = 0
    · subst h0
      have g0 : ((0 : Int) != 0) = false := rfl
      repeat' (first
        | (with_reducible first | refine sA ?_ ?_ | refine sB ?_ ?_ | refine sC ?_ ?_ | refine sD ?_ ?_ | refine sE ?_ ?_ | refine sF ?_ ?_) <;> intro h
        | simp only [go_sem, *])
      refine hG _ ⟨acc, h5, h4, hpb.skip, ?_⟩
      rw [hJ]
      have : ((0 : Int) : Rat) = 0 := rfl
      rw [this]; grind
    · have g0 : (x != 0) = true := by simpa using h0
      have pf : qfits p := FB.fits (k := 3) hpp (by decide) (by decide) (by decide)
      have xf : qfits (x : Rat) := FB.fits (k := 2) (FB.int x) (by rw [B2]; omega) (by rw [B2]; decide) (by decide)
      have mf : qfits ((x : Rat) * p) := FB.fits (k := 4) ((FB.int x).mul hpp) (by rw [B4]; omega) (by rw [B4]; decide) (by decide)
      have w1 := whole_d x ⟨by omega, by omega⟩
      have w2 := qmul_d (x : Rat) p xf pf
      have w3 := qadd_d acc ((x : Rat) * p) (hpb.fits (by omega)) mf
      have hst := hpb.step hxs hpp
      have hsz : (ratC acc).length = 6 := ratC_length _
      have hsz2 : (ratC (acc + (x : Rat) * p)).length = 6 := ratC_length _
      have hld : List.take 6 (List.map PV.t (ratC acc)) = List.map PV.t (ratC acc) := List.take_of_length_le (by rw [List.length_map, hsz]; exact Nat.le_refl _)
      have hdp : List.drop 6 (List.map PV.t (ratC acc)) = [] := List.drop_of_length_le (by rw [List.length_map, hsz]; exact Nat.le_refl _)
      clear mf xf pf hpb h0 hpp
      repeat' (first
        | (with_reducible first | refine sA ?_ ?_ | refine sB ?_ ?_ | refine sC ?_ ?_ | refine sD ?_ ?_ | refine sE ?_ ?_ | refine sF ?_ ?_) <;> intro h
        | refine clK_mk (w1) rfl ?_
        | refine clK_mk (w2) rfl ?_
        | refine clK_mk (w3) rfl ?_
        | simp only [go_sem, *])
      refine hG _ ⟨acc + (x : Rat) * p, ?_, ?_, hst, ?_⟩
      · simp only [go_sem, h5, hdp, List.append_nil]
      · simp only [go_sem, h4]
      · rw [hJ]; grind
  · have c4 := hfr 4 (by kernel_rfl)
    have c5 := hfr 5 (by kernel_rfl)
    clear hfr
    simp only [go_sem] at c4 c5
    change _ = PV.ad (5, 0) 1 0 at c5
    change _ = PV.ad (4, 0) 1 0 at c4
    obtain ⟨acc, h5, h4, hpb, hJ⟩ := hJ
    have hz : dotQ (r.coefs.drop r.coefs.length) (pts.drop r.coefs.length) = 0 := by rw [List.drop_length]; cases pts.drop r.coefs.length <;> rfl
    rw [hz] at hJ
    have hJ' : rowQ r pts = acc := by rw [hJ]; grind
    rw [hJ']
    have hsz : (ratC acc).length = 6 := ratC_length _
    have hld : List.take 6 (List.map PV.t (ratC acc)) = List.map PV.t (ratC acc) := List.take_of_length_le (by rw [List.length_map, hsz]; exact Nat.le_refl _)
    clear hJ hJ' hz
    repeat' (first
      | (with_reducible first | refine sA ?_ ?_ | refine sB ?_ ?_ | refine sC ?_ ?_ | refine sD ?_ ?_ | refine sE ?_ ?_ | refine sF ?_ ?_) <;> intro h
      | simp only [go_sem, *])
theorem holds2_d (r : Row) (pnn : Bool) (pts : List Rat) (hl : pts.length = r.coefs.length) (hlen : r.coefs.length ≤ 128) (hc : smallB r.const = true) (hcs : ∀ c ∈ r.coefs, smallB c = true) (hp : ∀ p ∈ pts, FB p 4611686018427387904 4611686018427387904) :
    DCall Tryz.prog 98 [r.tr, .ptr [.sl pnn (pts.map encQ)]] (.bool (decide (rowQ r pts < 0))) := by
  have h1 := lvalue_d r pnn pts hl hlen hc hcs hp
  have h2 := qsign_d (rowQ r pts)
  rw [← rat_nonneg_iff]
  generalize rowQ r pts = q at *
  clear hl hp hc hcs
  refine dcall_mk orders Tryz.func98 rfl (by kernel_rfl) noMu (by kernel_rfl) rfl (fun hs => ?_)
  clear hs
  repeat' (first
    | (with_reducible first | refine sA ?_ ?_ | refine sB ?_ ?_ | refine sC ?_ ?_ | refine sD ?_ ?_ | refine sE ?_ ?_ | refine sF ?_ ?_) <;> intro h
    | refine clK_mk (h1) rfl ?_
    | refine clK_mk (h2) rfl ?_
    | simp only [go_sem, *])
def RV.q (x : RV) : Rat := Rat.divInt x.num x.den
theorem ratB_spec {x : RV} (h : ratB x = true) : 1 ≤ x.den ∧ x.den ≤ 4611686018427387904 ∧ -4611686018427387904 ≤ x.num ∧ x.num ≤ 4611686018427387904 := by
  simp only [ratB, winB, Bool.and_eq_true, decide_eq_true_eq] at h
  omega
theorem ratB_FB {x : RV} (h : ratB x = true) : FB x.q 4611686018427387904 4611686018427387904 := by
  have := ratB_spec h
  exact FB.divInt (by omega) (by omega) (by omega)
def holdsR (vars : Int) (rows : List Row) (pts : List RV) : Bool × Int :=
  if sysErr vars rows ≠ 0 then (false, sysErr vars rows) else if pointB vars pts then (rows.all (fun r => !decide (rowQ r (pts.map RV.q) < 0)), 0) else (false, 2)
theorem toTr_fn_ad {h : Hp} {k : Nat} {g : FuncId} {id : Id} {n : Nat} {o : Obj} {ts : List Tr} (hg : hget h id = some o) (hl : o.len = n) (hm : mapO (toTr h k) o.cs = some ts) : toTr h (k + 2) (.fn g [.ad id n 0]) = some (.fn g [.ptr ts]) := by
  have h1 : toTr h (k + 1) (.ad id n 0) = some (.ptr ts) := by
    show (match hget h id with | some o => if o.len = n then (match mapO (toTr h k) o.cs with | some ts => some (Tr.ptr (ts.drop 0)) | none => none) else none | none => none) = _
    rw [hg]; simp only [hl, if_true, hm, List.drop_zero]
  show (match mapO (toTr h (k + 1)) [PV.ad id n 0] with | some ts => some (Tr.fn g ts) | none => none) = _
  simp only [mapO, h1]
def qz : List Tr := [i64 0, i64 0, .sl false [], .bool false, .sl false [], .bool false]
theorem lholds_d (vars : Int) (rnn : Bool) (rows : List Row) (pnn : Bool) (pts : List RV) :
    DCall Tryz.prog 35 [i64 vars, .sl rnn (rows.map Row.tr), .sl pnn (pts.map RV.tr)] (.tup [.bool (holdsR vars rows pts).1, i64 (holdsR vars rows pts).2]) := by
  have h1 := lcheck_d vars rnn rows
  have h2 := containsRV_d pnn pts 93 (fun x => !ratB x) (fun x _ => notRatio_d x)
  rw [any_not] at h2
  unfold holdsR
  by_cases he : sysErr vars rows = 0
  · obtain ⟨V, rfl, hS⟩ := sys_of he
    rw [he] at h1 ⊢
    by_cases hpt : pointB V pts = true
    · rw [if_pos hpt]
      simp only [pointB, Bool.and_eq_true, Bool.not_eq_true', bne_eq_false_iff_eq] at hpt
      obtain ⟨hpl, hpa⟩ := hpt
      have hl1 : pts.length ≤ V := by omega
      have hl2 : V ≤ pts.length := by omega
      have g1 : ((pts.length : Int) != (V : Int)) = false := by rw [hpl]; simp
      rw [hpa] at h2
      have hV := hS.v
      have hall : ∀ p ∈ pts, ratB p = true := List.all_eq_true.1 hpa
      have h3 := containsRows_d rnn rows 98 [.ptr [.sl true ((pts.map RV.q).map encQ)]] (fun r => decide (rowQ r (pts.map RV.q) < 0)) (fun r hr => holds2_d r true (pts.map RV.q) (by have := (hS.r r hr).1; simp only [List.length_map]; omega) (by have := (hS.r r hr).1; omega) (hS.r r hr).2.1 (hS.r r hr).2.2 (fun p hp => by
        obtain ⟨x, hx, rfl⟩ := List.mem_map.1 hp
        exact ratB_FB (hall x hx)))
      have e3 : rows.all (fun r => !decide (rowQ r (pts.map RV.q) < 0)) = !rows.any (fun r => decide (rowQ r (pts.map RV.q) < 0)) := by
        rw [List.all_eq_not_any_not]; simp
      rw [e3]
      generalize rows.any (fun r => decide (rowQ r (pts.map RV.q) < 0)) = b at *
      clear e3 hpa he hpl
      simp only [ne_eq, not_true_eq_false, if_false]
      refine dcall_mk orders Tryz.func35 rfl (by kernel_rfl) (fun d => d == 9 || d == 11 || d == 37 || d == 40 || d == 27 || d == 35) (by kernel_rfl) rfl (fun hs => ?_)
      clear hs hS
      repeat' (first
        | (with_reducible first | refine sA ?_ ?_ | refine sB ?_ ?_ | refine sC ?_ ?_ | refine sD ?_ ?_ | refine sE ?_ ?_ | refine sF ?_ ?_) <;> intro h
        | refine clK_mk (h1) rfl ?_
        | refine clK_mk (h2) rfl ?_
        | simp only [go_sem, *])
      refine hpK_if ⟨by omega, by omega⟩ ?_
      repeat' (first
        | (with_reducible first | refine sA ?_ ?_ | refine sB ?_ ?_ | refine sC ?_ ?_ | refine sD ?_ ?_ | refine sE ?_ ?_ | refine sF ?_ ?_) <;> intro h
        | simp only [go_sem, *])
      refine loop_range pts (fun k s' => ∃ cur : List Tr, hget s'.hp (27, 0) = some ⟨(flat cur).map .t, 6, V, tRat, true, true⟩ ∧ hget s'.hp (9, 0) = some ⟨[.rf (27, 0) V], 1, 1, tRats, false, true⟩ ∧ cur.length = V ∧ (∀ x ∈ cur, elemOK true 6 x) ∧ cur.take k = (pts.take k).map (fun x => encQ x.q)) rfl rfl (by first | assumption | omega) (by kernel_rfl) (fun _ _ _ _ hj => hj) (fun _ _ _ hj => hj) ?_ (fun k x s' hx hd hk hJ hix hfr G hG => ?_) (fun s' hJ hfr => ?_)
      · refine ⟨List.replicate V (.agg qz), ?_, ?_, by simp, fun x hx => by rw [(List.mem_replicate.1 hx).2]; exact ⟨fun _ => rfl, (fun h => nomatch h), rfl⟩, rfl⟩
        · rw [← zrow_flat]; rfl
        · rfl
      · have c1 := hfr 1 (by kernel_rfl)
        have c9 := hfr 9 (by kernel_rfl)
        have c28 := hfr 28 (by kernel_rfl)
        clear hfr
        simp only [go_sem] at c1 c9 c28
        change _ = PV.ad (9, 0) 1 0 at c9
        obtain ⟨cur, h27, h9, hcl, hok, htk⟩ := hJ
        have hsp := ratB_spec (hall x (List.mem_of_getElem? hx))
        have hn : inI64 x.num := ⟨by omega, by omega⟩
        have hdn : inI64 x.den := ⟨by omega, by omega⟩
        have o1 := of_d x.num hn
        have o2 := of_d x.den hdn
        have q1 := quo_d x.num x.den (by omega) (fits_i64 hn) (fits_i64 hdn)
        rw [show Rat.divInt x.num x.den = x.q from rfl] at q1
        obtain ⟨y, hy, _⟩ := get_of_lt cur k (by omega)
        have he6 : ∀ z ∈ cur, z.cells.length = 6 := fun z hz => (hok z hz).2.2
        have hsz : (ratC x.q).length = 6 := ratC_length _
        have hspl : splice (List.map PV.t (flat cur)) (k * 6) ((ratC x.q).map PV.t) = List.map PV.t (flat (cur.set k (encQ x.q))) := flat_splice he6 (x := y) (y := encQ x.q) hy (ratC_length _)
        have hfl : (flat cur).length = V * 6 := by rw [flat_length _ 6 he6, hcl]
        have hkV : k < V := by omega
        have hkV1 : k + 1 ≤ V := hkV
        have hkV2 : k * 6 + 6 ≤ V * 6 := by omega
        have hset : (cur.set k (encQ x.q)).take (k + 1) = (pts.take (k + 1)).map (fun z => encQ z.q) := by
          rw [take_set_succ _ _ _ (by omega), htk, List.take_add_one, hx, List.map_append]; rfl
        have hok2 : ∀ z ∈ cur.set k (encQ x.q), elemOK true 6 z := fun z hz => by
          rcases List.mem_or_eq_of_mem_set hz with hz | rfl
          · exact hok z hz
          · exact ok_encQ _
        clear htk hok he6 hy hsp hn hdn hall
        repeat' (first
          | (with_reducible first | refine sA ?_ ?_ | refine sB ?_ ?_ | refine sC ?_ ?_ | refine sD ?_ ?_ | refine sE ?_ ?_ | refine sF ?_ ?_) <;> intro h
          | refine clK_mk (o1) rfl ?_
          | refine clK_mk (o2) rfl ?_
          | refine clK_mk (q1) rfl ?_
          | simp only [go_sem, *])
        refine hG _ ⟨cur.set k (encQ x.q), ?_, ?_, by simp [hcl], hok2, hset⟩
        · simp only [go_sem, h27]
        · simp only [go_sem, h9]
      · have c1 := hfr 1 (by kernel_rfl)
        have c9 := hfr 9 (by kernel_rfl)
        clear hfr
        simp only [go_sem] at c1 c9
        change _ = PV.ad (9, 0) 1 0 at c9
        obtain ⟨cur, h27, h9, hcl, hok, htk⟩ := hJ
        rw [List.take_of_length_le (by omega), List.take_of_length_le (Nat.le_refl _)] at htk
        have hcur : cur = (pts.map RV.q).map encQ := by rw [htk, List.map_map]; rfl
        have e1 : toTr s'.hp 4 (.rf (27, 0) V) = some (.sl true ((pts.map RV.q).map encQ)) := by
          rw [← hcur]; exact toTr_flat 3 hok hcl h27
        have hdep : toTr s'.hp dep (mkFn 98 [.ad (9, 0) 1 0]) = some (.fn 98 [.ptr [.sl true ((pts.map RV.q).map encQ)]]) := by
          refine toTr_fn_ad (k := 4) h9 rfl ?_
          show mapO (toTr s'.hp 4) [_] = _
          simp only [mapO, e1]
        clear e1 hcur htk hok
        repeat' (first
          | (with_reducible first | refine sA ?_ ?_ | refine sB ?_ ?_ | refine sC ?_ ?_ | refine sD ?_ ?_ | refine sE ?_ ?_ | refine sF ?_ ?_) <;> intro h
          | refine clK_sc (h3) (by simp only [go_sem, *]) rfl ?_
          | simp only [go_sem, *])
    · rw [if_neg hpt]
      simp only [ne_eq, not_true_eq_false, if_false]
      by_cases hl : (pts.length : Int) = (V : Int)
      · have g1 : ((pts.length : Int) != (V : Int)) = false := by rw [hl]; simp
        have g2 : pts.all ratB = false := by
          rw [Bool.eq_false_iff]
          intro h; exact hpt (by simp [pointB, hl, h])
        rw [g2] at h2
        clear hl hpt he
        refine dcall_mk orders Tryz.func35 rfl (by kernel_rfl) (fun d => d == 9 || d == 11 || d == 37 || d == 40 || d == 27 || d == 35) (by kernel_rfl) rfl (fun hs => ?_)
        clear hs hS
        repeat' (first
          | (with_reducible first | refine sA ?_ ?_ | refine sB ?_ ?_ | refine sC ?_ ?_ | refine sD ?_ ?_ | refine sE ?_ ?_ | refine sF ?_ ?_) <;> intro h
          | refine clK_mk (h1) rfl ?_
          | refine clK_mk (h2) rfl ?_
          | simp only [go_sem, *])
      · have g1 : ((pts.length : Int) != (V : Int)) = true := by simpa using hl
        clear hl hpt he
        refine dcall_mk orders Tryz.func35 rfl (by kernel_rfl) (fun d => d == 9 || d == 11 || d == 37 || d == 40 || d == 27 || d == 35) (by kernel_rfl) rfl (fun hs => ?_)
        clear hs hS
        repeat' (first
          | (with_reducible first | refine sA ?_ ?_ | refine sB ?_ ?_ | refine sC ?_ ?_ | refine sD ?_ ?_ | refine sE ?_ ?_ | refine sF ?_ ?_) <;> intro h
          | refine clK_mk (h1) rfl ?_
          | simp only [go_sem, *])
  · rw [if_pos he]
    have hb : (sysErr vars rows != 0) = true := by simpa using he
    generalize sysErr vars rows = e at *
    clear he
    refine dcall_mk orders Tryz.func35 rfl (by kernel_rfl) (fun d => d == 9 || d == 11 || d == 37 || d == 40 || d == 27 || d == 35) (by kernel_rfl) rfl (fun hs => ?_)
    clear hs
    repeat' (first
      | (with_reducible first | refine sA ?_ ?_ | refine sB ?_ ?_ | refine sC ?_ ?_ | refine sD ?_ ?_ | refine sE ?_ ?_ | refine sF ?_ ?_) <;> intro h
      | refine clK_mk (h1) rfl ?_
      | simp only [go_sem, *])
end YtajgclnahfmfmaaGreat
end Go.Vm
end
section
set_option linter.unusedSimpArgs false
set_option maxRecDepth 10000
namespace Go.Vm
open Go Go.Proofs Go.Whole
namespace YtajgclnahfmfmaaGreat
open Go.Proofs.Tryz
attribute [go_sem] Tryz.results89 Tryz.results34 Tryz.results25
def scaledR (x : RInt) (k : Nat) : RInt := ⟨decide (x.p * k ≠ 0), x.p * k, decide (x.n * k ≠ 0), x.n * k⟩
theorem scaled_d (x : RInt) (k : Nat) (h : x.ok) (hk : k < 18446744073709551616) : DCall Tryz.prog 89 [x.tr, .int .u64 (k : Int)] (scaledR x k).tr := by
  have t1 := timesN_d x.pn x.p k hk (by have := h.1; omega)
  have t2 := timesN_d x.nn x.n k hk (by have := h.2; omega)
  unfold scaledR
  clear h
  generalize x.p * k = z1 at *
  generalize x.n * k = z2 at *
  generalize decide (z1 ≠ 0) = b1 at *
  generalize decide (z2 ≠ 0) = b2 at *
  refine dcall_mk orders Tryz.func89 rfl (by kernel_rfl) (fun d => d == 4) (by kernel_rfl) rfl (fun hs => ?_)
  clear hs
  repeat' (first
    | (with_reducible first | refine sA ?_ ?_ | refine sB ?_ ?_ | refine sC ?_ ?_ | refine sD ?_ ?_ | refine sE ?_ ?_ | refine sF ?_ ?_) <;> intro h
    | refine clK_mk (t1) rfl ?_
    | refine clK_mk (t2) rfl ?_
    | simp only [go_sem, *])
def stepR (x : RInt) (b : Nat) (c : Int) (q : RV) : RInt :=
  if (decide (c < 0) != decide (q.num < 0)) = true then { scaledR x q.den.natAbs with nn := decide (x.n * q.den.natAbs + b * q.num.natAbs * c.natAbs ≠ 0), n := x.n * q.den.natAbs + b * q.num.natAbs * c.natAbs }
  else { scaledR x q.den.natAbs with pn := decide (x.p * q.den.natAbs + b * q.num.natAbs * c.natAbs ≠ 0), p := x.p * q.den.natAbs + b * q.num.natAbs * c.natAbs }
def atGo : RInt → Nat → List Int → List RV → RInt
  | x, b, c :: cs, q :: qs => atGo (stepR x b c q) (b * q.den.natAbs) cs qs
  | x, _, _, _ => x
theorem stepR_v (x : RInt) (b : Nat) (c : Int) (q : RV) (hd : 1 ≤ q.den) : ((stepR x b c q).p : Int) - (stepR x b c q).n = ((x.p : Int) - x.n) * q.den + b * (c * q.num) := by
  have e0 : ((q.den.natAbs : Nat) : Int) = q.den := by omega
  have key : ((b * q.num.natAbs * c.natAbs : Nat) : Int) = if (decide (c < 0) != decide (q.num < 0)) = true then -(b * (c * q.num)) else b * (c * q.num) := by
    rw [Int.natCast_mul, Int.natCast_mul]
    by_cases h1 : c < 0
    · have e1 : ((c.natAbs : Nat) : Int) = -c := by omega
      by_cases h2 : q.num < 0
      · have e2 : ((q.num.natAbs : Nat) : Int) = -q.num := by omega
        simp [h1, h2, e1, e2]; grind
      · have e2 : ((q.num.natAbs : Nat) : Int) = q.num := by omega
        simp [h1, h2, e1, e2]; grind
    · have e1 : ((c.natAbs : Nat) : Int) = c := by omega
      by_cases h2 : q.num < 0
      · have e2 : ((q.num.natAbs : Nat) : Int) = -q.num := by omega
        simp [h1, h2, e1, e2]; grind
      · have e2 : ((q.num.natAbs : Nat) : Int) = q.num := by omega
        simp [h1, h2, e1, e2]; grind
  unfold stepR
  split
  · rename_i h
    rw [if_pos h] at key
    simp only [scaledR, Int.natCast_add, key, Int.natCast_mul, e0]; grind
  · rename_i h
    rw [if_neg h] at key
    simp only [scaledR, Int.natCast_add, key, Int.natCast_mul, e0]; grind
theorem at_step {n b d c m : Int} (hb : 0 < b) (hd : 0 < d) : ((n * d + b * (c * m) : Int) : Rat) / ((b * d : Int) : Rat) = (n : Rat) / (b : Rat) + (c : Rat) * Rat.divInt m d := by
  have hb' : (b : Rat) ≠ 0 := by simp; omega
  have hd' : (d : Rat) ≠ 0 := by simp; omega
  rw [Rat.divInt_eq_div]
  simp only [Rat.intCast_add, Rat.intCast_mul]
  grind
theorem atGo_v : ∀ (cs : List Int) (qs : List RV) (x : RInt) (b : Nat), 0 < b → (∀ q ∈ qs, ratB q = true) → ∃ b' : Nat, 0 < b' ∧ ((((atGo x b cs qs).p : Int) - (atGo x b cs qs).n : Int) : Rat) / ((b' : Int) : Rat) = (((x.p : Int) - x.n : Int) : Rat) / ((b : Int) : Rat) + dotQ cs (qs.map RV.q)
  | [], qs, x, b, hb, _ => ⟨b, hb, by show (((x.p : Int) - x.n : Int) : Rat) / _ = _ + 0; grind⟩
  | c :: cs, [], x, b, hb, _ => ⟨b, hb, by show (((x.p : Int) - x.n : Int) : Rat) / _ = _ + 0; grind⟩
  | c :: cs, q :: qs, x, b, hb, hq => by
    have h1 := ratB_spec (hq q (by simp))
    have e0 : ((q.den.natAbs : Nat) : Int) = q.den := by omega
    obtain ⟨b', hb', h2⟩ := atGo_v cs qs (stepR x b c q) (b * q.den.natAbs) (Nat.mul_pos hb (by omega)) (fun z hz => hq z (List.mem_cons_of_mem _ hz))
    refine ⟨b', hb', ?_⟩
    rw [atGo, h2, stepR_v _ _ _ _ h1.1, List.map_cons, dotQ, Int.natCast_mul, e0, at_step (by omega) (by omega)]
    show _ + (c : Rat) * q.q + _ = _
    grind
theorem neg_iff {n b : Int} (hb : 0 < b) : n < 0 ↔ (n : Rat) / (b : Rat) < 0 := by
  have hb' : (0 : Rat) < (b : Rat) := by exact_mod_cast hb
  rw [Rat.div_lt_iff hb', Rat.zero_mul]
  exact ⟨fun h => by exact_mod_cast h, fun h => by exact_mod_cast h⟩
def atB (k : Nat) (x : RInt) (b : Nat) : Prop := x.p ≤ B ^ (2 * (k + 1)) ∧ x.n ≤ B ^ (2 * (k + 1)) ∧ b ≤ B ^ (2 * k)
theorem len_pow {n k : Nat} (h : n ≤ B ^ (2 * k)) : (digs n).length ≤ 2 * k + 1 := digs_length_le (Nat.lt_of_le_of_lt h (Nat.pow_lt_pow_right (by rw [B_eq]; decide) (Nat.lt_succ_self _)))
theorem big_sum {Y y z : Nat} (hy : y ≤ Y * 85070591730234615865843651857942052864) (hz : z ≤ Y * 4835703278458516698824704) : y + z ≤ Y * 340282366920938463463374607431768211456 ∧ y ≤ Y * 340282366920938463463374607431768211456 := by omega
theorem atB.step {k : Nat} {x : RInt} {b : Nat} {c : Int} {q : RV} (h : atB k x b) (hq : ratB q = true) (hc : c.natAbs ≤ 1048576) : atB (k + 1) (stepR x b c q) (b * q.den.natAbs) := by
  obtain ⟨h1, h2, h3⟩ := h
  have hs := ratB_spec hq
  have hd : q.den.natAbs ≤ 4611686018427387904 := by omega
  have hn : q.num.natAbs ≤ 4611686018427387904 := by omega
  have k1 : b * q.num.natAbs * c.natAbs ≤ B ^ (2 * k) * 4835703278458516698824704 := by
    rw [Nat.mul_assoc]
    exact Nat.mul_le_mul h3 (Nat.mul_le_mul hn hc)
  have k2 : ∀ y, y ≤ B ^ (2 * (k + 1)) → y * q.den.natAbs ≤ B ^ (2 * k) * 85070591730234615865843651857942052864 := by
    intro y hy
    refine Nat.le_trans (Nat.mul_le_mul hy hd) ?_
    rw [B_pow2 k, Nat.mul_assoc]; exact Nat.le_refl _
  have e4 : B ^ (2 * (k + 1 + 1)) = B ^ (2 * k) * 340282366920938463463374607431768211456 := by rw [B_pow2 (k + 1), B_pow2 k, Nat.mul_assoc]
  have a1 := k2 _ h1
  have a2 := k2 _ h2
  have k3 : ∀ y, y ≤ B ^ (2 * k) * 85070591730234615865843651857942052864 → y + b * q.num.natAbs * c.natAbs ≤ B ^ (2 * k) * 340282366920938463463374607431768211456 ∧ y ≤ B ^ (2 * k) * 340282366920938463463374607431768211456 := fun y hy => big_sum hy k1
  obtain ⟨p1, p2⟩ := k3 _ a1
  obtain ⟨n1, n2⟩ := k3 _ a2
  refine ⟨?_, ?_, ?_⟩
  · rw [e4]; unfold stepR scaledR; split
    · exact p2
    · exact p1
  · rw [e4]; unfold stepR scaledR; split
    · exact n1
    · exact n2
  · rw [B_pow2 k]
    exact Nat.mul_le_mul h3 (by omega)
theorem atB.ok {k : Nat} {x : RInt} {b : Nat} (h : atB k x b) (hk : k ≤ 200) : (digs x.p).length ≤ 500 ∧ (digs x.n).length ≤ 500 ∧ (digs b).length ≤ 500 := by
  have h1 := len_pow h.1
  have h2 := len_pow h.2.1
  have h3 := len_pow h.2.2
  omega
def at0 (r : Row) : RInt := withR zR r.const 1
def atR (r : Row) (qs : List RV) : RInt := atGo (at0 r) 1 r.coefs qs
theorem at0_B {r : Row} (hc : smallB r.const = true) : atB 0 (at0 r) 1 := by
  have h1 := smallB_abs hc
  refine ⟨?_, ?_, Nat.le_refl _⟩
  · unfold at0 withR; rw [show B ^ (2 * (0 + 1)) = 18446744073709551616 by decide]; split <;> simp only <;> omega
  · unfold at0 withR; rw [show B ^ (2 * (0 + 1)) = 18446744073709551616 by decide]; split <;> simp only <;> omega
theorem atR_neg (r : Row) (qs : List RV) (hq : ∀ q ∈ qs, ratB q = true) : decide ((atR r qs).p < (atR r qs).n) = decide (rowQ r (qs.map RV.q) < 0) := by
  obtain ⟨b', hb', h⟩ := atGo_v r.coefs qs (at0 r) 1 (by decide) hq
  have e0 : ((at0 r).p : Int) - (at0 r).n = r.const := by
    have := withR_v zR r.const 1
    rw [show at0 r = withR zR r.const 1 from rfl, this]
    show ((0 : Nat) : Int) - ((0 : Nat) : Int) + r.const * ((1 : Nat) : Int) = r.const
    omega
  rw [e0] at h
  have e1 : rowQ r (qs.map RV.q) = (((atR r qs).p : Int) - (atR r qs).n : Int) / ((b' : Int) : Rat) := by
    show _ = ((((atGo (at0 r) 1 r.coefs qs).p : Int) - (atGo (at0 r) 1 r.coefs qs).n : Int) : Rat) / ((b' : Int) : Rat)
    rw [h]; unfold rowQ
    have : (((1 : Nat) : Int) : Rat) = 1 := rfl
    rw [this]; grind
  rw [e1, Bool.eq_iff_iff, decide_eq_true_iff, decide_eq_true_iff, ← neg_iff (by omega)]
  omega
theorem at_d (r : Row) (qn : Bool) (qs : List RV) (hl : qs.length = r.coefs.length) (hlen : r.coefs.length ≤ 128) (hc : smallB r.const = true) (hcs : ∀ c ∈ r.coefs, smallB c = true) (hq : ∀ q ∈ qs, ratB q = true) :
    DCall Tryz.prog 34 [r.tr, .sl qn (qs.map RV.tr)] (atR r qs).tr ∧ (atR r qs).ok := by
  have hend : ∀ k x b, k = r.coefs.length → atB k x b → x.ok := fun k x b hk h => by have := h.ok (k := k) (by omega); exact ⟨by omega, by omega⟩
  constructor
  · have hb0 := at0_B hc
    have hc1 := smallB_abs hc
    have w0 := ofN_d 1 (by decide)
    have w1 := with_d zR r.const true 1 ⟨by omega, by omega⟩ (Nat.le_trans (digs64 (by decide)) (by decide)) (Nat.le_trans (digs64 (m := 0) (by decide)) (by decide)) (Nat.le_trans (digs64 (m := 0) (by decide)) (by decide))
    have hz : zR.tr = .agg [.sl false [], .sl false []] := by unfold RInt.tr; rw [zR_cs]
    rw [hz] at w1
    change DCall _ _ _ (at0 r).tr at w1
    refine dcall_mk orders Tryz.func34 rfl (by kernel_rfl) (fun d => d == 4 || d == 6 || d == 49 || d == 56 || d == 57 || d == 64) (by kernel_rfl) rfl (fun hs => ?_)
    clear hs hz
    repeat' (first
      | (with_reducible first | refine sA ?_ ?_ | refine sB ?_ ?_ | refine sC ?_ ?_ | refine sD ?_ ?_ | refine sE ?_ ?_ | refine sF ?_ ?_) <;> intro h
      | refine clK_mk (w0) rfl ?_
      | refine clK_mk (w1) rfl ?_
      | simp only [go_sem, *])
    refine loop_range r.coefs (fun k s' => ∃ (x : RInt) (b : Nat), hget s'.hp (6, 0) = some ⟨x.cs.map .t, 2, 1, tRInt, true, true⟩ ∧ hget s'.hp (4, 0) = some ⟨[.t (.sl false []), .t (.sl false [])], 2, 1, tRInt, true, true⟩ ∧ s'.sl 5 = .t (natT true b) ∧ 0 < b ∧ atB k x b ∧ atR r qs = atGo x b (r.coefs.drop k) (qs.drop k)) rfl rfl (by first | assumption | omega) (by kernel_rfl) (fun _ _ _ _ hj => hj) (fun _ _ _ hj => hj) ?_ (fun k x s' hx hd hk hJ hix hfr G hG => ?_) (fun s' hJ hfr => ?_)
    · refine ⟨at0 r, 1, rfl, rfl, rfl, by decide, hb0, rfl⟩
    · have c1 := hfr 1 (by kernel_rfl)
      have c6 := hfr 6 (by kernel_rfl)
      have c17 := hfr 17 (by kernel_rfl)
      clear hfr
      simp only [go_sem] at c1 c6 c17
      change _ = PV.ad (6, 0) 1 0 at c6
      obtain ⟨x', b, h6, h4, c5, hbp, hB, hJ⟩ := hJ
      obtain ⟨q, hq1, hq2⟩ := get_of_lt qs k (by omega)
      rw [hd, hq2, atGo] at hJ
      have hqr := hq q (List.mem_of_getElem? hq1)
      have hsp := ratB_spec hqr
      have hxs := smallB_abs (hcs x (List.mem_of_getElem? hx))
      have hok := hB.ok (by omega)
      have hst := hB.step hqr hxs
      have hdw : IntKind.u64.wrap q.den = ((q.den.natAbs : Nat) : Int) := by rw [show q.den = ((q.den.natAbs : Nat) : Int) by omega]; exact wrap_u64_lt (by omega)
      have hd64 : q.den.natAbs < 18446744073709551616 := by omega
      have hn64 : q.num.natAbs < 18446744073709551616 := by omega
      have hx64 : x.natAbs < 18446744073709551616 := by omega
      have s1 := scaled_d x' q.den.natAbs ⟨by omega, by omega⟩ hd64
      have s2 := sizeN_d q.num ⟨by omega, by omega⟩
      have s3 := timesN_d true b q.num.natAbs hn64 (by omega)
      have s4 := sizeN_d x ⟨by omega, by omega⟩
      have l3 : (digs (b * q.num.natAbs)).length ≤ 503 := len_mul (n := 2) (m := 501) (by omega) (digs64 hn64)
      have s5 := timesN_d (decide (b * q.num.natAbs ≠ 0)) (b * q.num.natAbs) x.natAbs hx64 (by omega)
      have l5 : (digs (b * q.num.natAbs * x.natAbs)).length ≤ 505 := len_mul (n := 2) (m := 503) l3 (digs64 hx64)
      have lp : (digs (x'.p * q.den.natAbs)).length ≤ 502 := len_mul (n := 2) (m := 500) (by omega) (digs64 hd64)
      have ln : (digs (x'.n * q.den.natAbs)).length ≤ 502 := len_mul (n := 2) (m := 500) (by omega) (digs64 hd64)
      have s6 := timesN_d true b q.den.natAbs hd64 (by omega)
      have hbd : 0 < b * q.den.natAbs := Nat.mul_pos hbp (by omega)
      rw [show decide (b * q.den.natAbs ≠ 0) = true from decide_eq_true (by omega)] at s6
      by_cases hsg : (decide (x < 0) != decide (q.num < 0)) = true
      · have s7 := plusN_d (decide (x'.n * q.den.natAbs ≠ 0)) (decide (b * q.num.natAbs * x.natAbs ≠ 0)) (x'.n * q.den.natAbs) (b * q.num.natAbs * x.natAbs) (by omega) (by omega)
        have e : stepR x' b x q = { scaledR x' q.den.natAbs with nn := decide (x'.n * q.den.natAbs + b * q.num.natAbs * x.natAbs ≠ 0), n := x'.n * q.den.natAbs + b * q.num.natAbs * x.natAbs } := if_pos hsg
        rw [e] at hJ hst
        clear e l3 l5 lp ln hok hxs hsp
        unfold scaledR at *
        generalize b * q.num.natAbs * x.natAbs = z3 at *
        generalize b * q.num.natAbs = z2 at *
        generalize x'.n * q.den.natAbs = z1 at *
        generalize x'.p * q.den.natAbs = z0 at *
        generalize hbb : b * q.den.natAbs = b' at *
        clear hbb
        generalize decide (z1 + z3 ≠ 0) = f1 at *
        generalize decide (z0 ≠ 0) = f2 at *
        generalize decide (z1 ≠ 0) = f3 at *
        generalize decide (z2 ≠ 0) = f4 at *
        generalize decide (z3 ≠ 0) = f5 at *
        generalize z1 + z3 = z4 at *
        clear hB hq hcs hbp
        repeat' (first
          | (with_reducible first | refine sA ?_ ?_ | refine sB ?_ ?_ | refine sC ?_ ?_ | refine sD ?_ ?_ | refine sE ?_ ?_ | refine sF ?_ ?_) <;> intro h
          | refine clK_mk (s1) rfl ?_
          | refine clK_mk (s2) rfl ?_
          | refine clK_mk (s3) rfl ?_
          | refine clK_mk (s4) rfl ?_
          | refine clK_mk (s5) rfl ?_
          | refine clK_mk (s6) rfl ?_
          | refine clK_mk (s7) rfl ?_
          | simp only [go_sem, *])
        refine hG _ ⟨⟨f2, z0, f1, z4⟩, b', ?_, ?_, rfl, hbd, hst, hJ⟩
        · simp only [go_sem, h6]
        · simp only [go_sem, h4]
      · have s7 := plusN_d (decide (x'.p * q.den.natAbs ≠ 0)) (decide (b * q.num.natAbs * x.natAbs ≠ 0)) (x'.p * q.den.natAbs) (b * q.num.natAbs * x.natAbs) (by omega) (by omega)
        have e : stepR x' b x q = { scaledR x' q.den.natAbs with pn := decide (x'.p * q.den.natAbs + b * q.num.natAbs * x.natAbs ≠ 0), p := x'.p * q.den.natAbs + b * q.num.natAbs * x.natAbs } := if_neg hsg
        rw [e] at hJ hst
        have hsg' := Bool.eq_false_iff.2 hsg
        clear e l3 l5 lp ln hok hxs hsp hsg
        unfold scaledR at *
        generalize b * q.num.natAbs * x.natAbs = z3 at *
        generalize b * q.num.natAbs = z2 at *
        generalize x'.n * q.den.natAbs = z1 at *
        generalize x'.p * q.den.natAbs = z0 at *
        generalize hbb : b * q.den.natAbs = b' at *
        clear hbb
        generalize decide (z0 + z3 ≠ 0) = f1 at *
        generalize decide (z0 ≠ 0) = f2 at *
        generalize decide (z1 ≠ 0) = f3 at *
        generalize decide (z2 ≠ 0) = f4 at *
        generalize decide (z3 ≠ 0) = f5 at *
        generalize z0 + z3 = z4 at *
        clear hB hq hcs hbp
        repeat' (first
          | (with_reducible first | refine sA ?_ ?_ | refine sB ?_ ?_ | refine sC ?_ ?_ | refine sD ?_ ?_ | refine sE ?_ ?_ | refine sF ?_ ?_) <;> intro h
          | refine clK_mk (s1) rfl ?_
          | refine clK_mk (s2) rfl ?_
          | refine clK_mk (s3) rfl ?_
          | refine clK_mk (s4) rfl ?_
          | refine clK_mk (s5) rfl ?_
          | refine clK_mk (s6) rfl ?_
          | refine clK_mk (s7) rfl ?_
          | simp only [go_sem, *])
        refine hG _ ⟨⟨f1, z4, f3, z1⟩, b', ?_, ?_, rfl, hbd, hst, hJ⟩
        · simp only [go_sem, h6]
        · simp only [go_sem, h4]
    · have c4 := hfr 4 (by kernel_rfl)
      have c6 := hfr 6 (by kernel_rfl)
      clear hfr
      simp only [go_sem] at c4 c6
      change _ = PV.ad (6, 0) 1 0 at c6
      change _ = PV.ad (4, 0) 1 0 at c4
      obtain ⟨x', b, h6, h4, c5, hbp, hB, hJ⟩ := hJ
      have hJ' : atR r qs = x' := by rw [hJ, List.drop_length]; rfl
      rw [hJ']
      clear hJ hJ'
      repeat' (first
        | (with_reducible first | refine sA ?_ ?_ | refine sB ?_ ?_ | refine sC ?_ ?_ | refine sD ?_ ?_ | refine sE ?_ ?_ | refine sF ?_ ?_) <;> intro h
        | simp only [go_sem, *])
  · have key : ∀ (cs : List Int) (qs : List RV) (k : Nat) (x : RInt) (b : Nat), (∀ c ∈ cs, smallB c = true) → (∀ q ∈ qs, ratB q = true) → atB k x b → k + cs.length ≤ 200 → (atGo x b cs qs).ok := by
      intro cs
      induction cs with
      | nil => intro qs k x b _ _ h hk; have := h.ok (by simpa using hk); exact ⟨by show (digs x.p).length ≤ _; omega, by show (digs x.n).length ≤ _; omega⟩
      | cons c cs ih =>
        intro qs k x b h1 h2 h hk
        cases qs with
        | nil => have := h.ok (by omega); exact ⟨by show (digs x.p).length ≤ _; omega, by show (digs x.n).length ≤ _; omega⟩
        | cons q qs => exact ih qs (k + 1) _ _ (fun z hz => h1 z (List.mem_cons_of_mem _ hz)) (fun z hz => h2 z (List.mem_cons_of_mem _ hz)) (h.step (h2 q (by simp)) (smallB_abs (h1 c (by simp)))) (by simp only [List.length_cons] at hk; omega)
    exact key r.coefs qs 0 _ _ hcs hq (at0_B hc) (by omega)
theorem refHolds_d (rnn : Bool) (rows : List Row) (qn : Bool) (qs : List RV) (hr : ∀ r ∈ rows, qs.length = r.coefs.length ∧ smallB r.const = true ∧ ∀ c ∈ r.coefs, smallB c = true) (hV : qs.length ≤ 128) (hlen : rows.length ≤ 1000000) (hq : ∀ q ∈ qs, ratB q = true) :
    DCall Tryz.prog 25 [.sl rnn (rows.map Row.tr), .sl qn (qs.map RV.tr)] (.bool (rows.all (fun r => !decide (rowQ r (qs.map RV.q) < 0)))) := by
  refine dcall_mk orders Tryz.func25 rfl (by kernel_rfl) (fun d => d == 6) (by kernel_rfl) rfl (fun hs => ?_)
  clear hs
  generalize hR : rows.all (fun r => !decide (rowQ r (qs.map RV.q) < 0)) = R
  repeat' (first
    | (with_reducible first | refine sA ?_ ?_ | refine sB ?_ ?_ | refine sC ?_ ?_ | refine sD ?_ ?_ | refine sE ?_ ?_ | refine sF ?_ ?_) <;> intro h
    | simp only [go_sem, *])
  refine loop_range rows (fun k s' => (rows.drop k).all (fun r => !decide (rowQ r (qs.map RV.q) < 0)) = R) rfl rfl (by first | assumption | omega) (by kernel_rfl) (fun _ _ _ _ hj => hj) (fun _ _ _ hj => hj) ?_ (fun k x s' hx hd hk hJ hix hfr G hG => ?_) (fun s' hJ hfr => ?_)
  · exact hR
  · have c1 := hfr 1 (by kernel_rfl)
    have c7 := hfr 7 (by kernel_rfl)
    clear hfr
    simp only [go_sem] at c1 c7
    obtain ⟨h1, h2, h3⟩ := hr x (List.mem_of_getElem? hx)
    obtain ⟨a1, a2⟩ := at_d x qn qs h1 (by omega) h2 h3 hq
    have a3 := negative_d (atR x qs) a2
    rw [atR_neg x qs hq] at a3
    generalize atR x qs = y at *
    rw [hd, List.all_cons] at hJ
    cases hb : decide (rowQ x (qs.map RV.q) < 0) with
    | true =>
      rw [hb] at hJ a3
      have hJ' : R = false := by rw [← hJ]; rfl
      subst hJ'
      clear hJ hb hR hr hq
      repeat' (first
        | (with_reducible first | refine sA ?_ ?_ | refine sB ?_ ?_ | refine sC ?_ ?_ | refine sD ?_ ?_ | refine sE ?_ ?_ | refine sF ?_ ?_) <;> intro h
        | refine clK_mk (a1) rfl ?_
        | refine clK_mk (a3) rfl ?_
        | simp only [go_sem, *])
    | false =>
      rw [hb] at hJ a3
      clear hb hR hr hq
      repeat' (first
        | (with_reducible first | refine sA ?_ ?_ | refine sB ?_ ?_ | refine sC ?_ ?_ | refine sD ?_ ?_ | refine sE ?_ ?_ | refine sF ?_ ?_) <;> intro h
        | refine clK_mk (a1) rfl ?_
        | refine clK_mk (a3) rfl ?_
        | simp only [go_sem, *])
      refine hG _ ?_
      rw [← hJ]; rfl
  · rw [List.drop_length] at hJ
    have hJ' : R = true := by rw [← hJ]; rfl
    subst hJ'
    have c1 := hfr 1 (by kernel_rfl)
    clear hfr
    simp only [go_sem] at c1
    clear hJ hR
    repeat' (first
      | (with_reducible first | refine sA ?_ ?_ | refine sB ?_ ?_ | refine sC ?_ ?_ | refine sD ?_ ?_ | refine sE ?_ ?_ | refine sF ?_ ?_) <;> intro h
      | simp only [go_sem, *])
end YtajgclnahfmfmaaGreat
end Go.Vm
end
section
set_option linter.unusedSimpArgs false
namespace Go.Vm
open Go Go.Proofs
namespace YtajgclnahfmfmaaGreat
open Go.Proofs.Tryz
theorem typed_int {t : TypeId} {k : IntKind} {xs : List Tr} (hu : Tryz.prog.underlying t = some (.int k)) (h : Typed Tryz.prog t xs) : ∃ n, xs = [.int k n] := by
  cases h with
  | int h => rw [hu] at h; injection h with h; injection h with h; subst h; exact ⟨_, rfl⟩
  | bool h => rw [hu] at h; cases h
  | str h => rw [hu] at h; cases h
  | snil h => rw [hu] at h; cases h
  | sl h => rw [hu] at h; cases h
  | struct h => rw [hu] at h; cases h
theorem typed_sl {α : Type} {t e : TypeId} {xs : List Tr} (hu : Tryz.prog.underlying t = some (.slice e)) (f : α → Tr) (hel : ∀ x, Typed Tryz.prog e x.cells → (aggB Tryz.prog e = some true → x = .agg x.cells) → x.cells.length = Tryz.prog.cellsOf e → (aggB Tryz.prog e = some false → x.cells = [x]) → ∃ a, x = f a) (h : Typed Tryz.prog t xs) : ∃ nn l, xs = [.sl nn (List.map f l)] := by
  cases h with
  | snil h => exact ⟨false, [], rfl⟩
  | @sl _ e' l h h1 h2 h3 h4 =>
    rw [hu] at h; injection h with h; injection h with h; subst h
    have : ∃ q : List α, l = q.map f := by
      induction l with
      | nil => exact ⟨[], rfl⟩
      | cons x l ih =>
        obtain ⟨q, rfl⟩ := ih (fun y hy => h1 y (by simp [hy])) (fun y hy => h2 y (by simp [hy])) (fun y hy => h3 y (by simp [hy])) (fun y hy => h4 y (by simp [hy]))
        obtain ⟨a, rfl⟩ := hel x (h1 x (by simp)) (h2 x (by simp)) (h3 x (by simp)) (h4 x (by simp))
        exact ⟨a :: q, rfl⟩
    obtain ⟨q, rfl⟩ := this
    exact ⟨true, q, rfl⟩
  | bool h => rw [hu] at h; cases h
  | int h => rw [hu] at h; cases h
  | str h => rw [hu] at h; cases h
  | struct h => rw [hu] at h; cases h
theorem typed_struct {t : TypeId} {fs : Array Field} {xs : List Tr} (hu : Tryz.prog.underlying t = some (.struct fs)) (h : Typed Tryz.prog t xs) : xs.length = Tryz.prog.cellsOf t ∧ ∀ f ∈ fs.toList, Typed Tryz.prog f.type ((xs.drop f.offset).take (Tryz.prog.cellsOf f.type)) := by
  cases h with
  | struct h h1 h2 => rw [hu] at h; injection h with h; injection h with h; subst h; exact ⟨h1, h2⟩
  | bool h => rw [hu] at h; cases h
  | int h => rw [hu] at h; cases h
  | str h => rw [hu] at h; cases h
  | snil h => rw [hu] at h; cases h
  | sl h => rw [hu] at h; cases h
theorem typed_ints {t : TypeId} {xs : List Tr} (hu : Tryz.prog.underlying t = some (.slice 2)) (h : Typed Tryz.prog t xs) : ∃ nn l, xs = [.sl nn (ints l)] := by
  refine typed_sl hu (Tr.int .i64) (fun x h1 _ _ h4 => ?_) h
  obtain ⟨n, hn⟩ := typed_int (k := .i64) (by kernel_rfl) h1
  have := h4 (by kernel_rfl)
  rw [hn] at this
  injection this with h5
  exact ⟨n, h5.symm⟩
theorem len2 {xs : List Tr} (h : xs.length = 2) : ∃ a b, xs = [a, b] := by
  match xs, h with
  | [a, b], _ => exact ⟨a, b, rfl⟩
theorem typed_row {xs : List Tr} (h : Typed Tryz.prog 37 xs) : ∃ r : Row, .agg xs = r.tr := by
  obtain ⟨hl, hf⟩ := typed_struct Tryz.underlying37 h
  obtain ⟨a, b, rfl⟩ := len2 (hl.trans (by kernel_rfl))
  simp only [List.mem_cons, List.not_mem_nil, or_false, forall_eq_or_imp, forall_eq] at hf
  simp only [go_sem] at hf
  obtain ⟨h1, h2⟩ := hf
  obtain ⟨nn, l, e1⟩ := typed_ints (by kernel_rfl) h1
  obtain ⟨n, e2⟩ := typed_int (k := .i64) (by kernel_rfl) h2
  injection e1 with e1; injection e2 with e2
  subst e1; subst e2
  exact ⟨⟨nn, l, n⟩, rfl⟩
theorem typed_rows {t : TypeId} {xs : List Tr} (hu : Tryz.prog.underlying t = some (.slice 37)) (h : Typed Tryz.prog t xs) : ∃ nn l, xs = [.sl nn (List.map Row.tr l)] := by
  refine typed_sl hu Row.tr (fun x h1 h2 _ _ => ?_) h
  obtain ⟨r, hr⟩ := typed_row h1
  exact ⟨r, (h2 (by kernel_rfl)).trans hr⟩
end YtajgclnahfmfmaaGreat
end Go.Vm
end
section
set_option linter.unusedSimpArgs false
set_option maxRecDepth 10000
namespace Go.Vm
open Go Go.Proofs Go.Whole
namespace YtajgclnahfmfmaaGreat
open Go.Proofs.Tryz
attribute [go_sem] Tryz.results5 Tryz.results6
theorem holdsR_true {vars : Int} {rows : List Row} {pts : List RV} (h1 : sysErr vars rows = 0) (h2 : pointB vars pts = true) : holdsR vars rows pts = (rows.all (fun r => !decide (rowQ r (pts.map RV.q) < 0)), 0) := by
  unfold holdsR; rw [if_neg (fun h => h h1), if_pos h2]
theorem holdsR_point {vars : Int} {rows : List Row} {pts : List RV} (h1 : sysErr vars rows = 0) (h2 : pointB vars pts = false) : holdsR vars rows pts = (false, 2) := by
  unfold holdsR; rw [if_neg (fun h => h h1), if_neg (by rw [h2]; exact Bool.noConfusion)]
theorem holdsR_err {vars : Int} {rows : List Row} {pts : List RV} (h1 : sysErr vars rows ≠ 0) : holdsR vars rows pts = (false, sysErr vars rows) := by
  unfold holdsR; rw [if_pos h1]
theorem LinearHolds_d (vars : Int) (rnn : Bool) (rows : List Row) (pnn : Bool) (pts : List RV) : DCall Tryz.prog 5 [i64 vars, .sl rnn (rows.map Row.tr), .sl pnn (pts.map RV.tr)] (.bool true) := by
  have h1 := lholds_d vars rnn rows pnn pts
  have h2 := refSys_d vars rnn rows
  have h3 := alive25_d
  have h4 := point_d vars pnn pts
  by_cases he : sysErr vars rows = 0
  · obtain ⟨V, rfl, hS⟩ := sys_of he
    rw [he] at h2
    cases hp : pointB V pts with
    | true =>
      rw [hp] at h4
      rw [holdsR_true he hp] at h1
      simp only [pointB, Bool.and_eq_true, Bool.not_eq_true', bne_eq_false_iff_eq, List.all_eq_true] at hp
      obtain ⟨p1, p2⟩ := hp
      have hV := hS.v
      have h5 := refHolds_d rnn rows pnn pts (fun r hr => by obtain ⟨a1, a2, a3⟩ := hS.r r hr; exact ⟨by omega, a2, a3⟩) (by omega) (by have := hS.n; omega) p2
      generalize List.all rows _ = b at *
      clear hS he p1 p2
      refine dcall_mk orders Tryz.func5 rfl (by kernel_rfl) noMu (by kernel_rfl) rfl (fun hs => ?_)
      clear hs
      repeat' (first
        | (with_reducible first | refine sA ?_ ?_ | refine sB ?_ ?_ | refine sC ?_ ?_ | refine sD ?_ ?_ | refine sE ?_ ?_ | refine sF ?_ ?_) <;> intro h
        | refine clK_mk (h1) rfl ?_
        | refine clK_mk (h2) rfl ?_
        | refine clK_mk (h4) rfl ?_
        | refine clK_mk (h5) rfl ?_
        | simp only [go_sem, *, beq_self_eq_true])
    | false =>
      rw [hp] at h4
      rw [holdsR_point he hp] at h1
      clear hS he hp
      refine dcall_mk orders Tryz.func5 rfl (by kernel_rfl) noMu (by kernel_rfl) rfl (fun hs => ?_)
      clear hs
      repeat' (first
        | (with_reducible first | refine sA ?_ ?_ | refine sB ?_ ?_ | refine sC ?_ ?_ | refine sD ?_ ?_ | refine sE ?_ ?_ | refine sF ?_ ?_) <;> intro h
        | refine clK_mk (h1) rfl ?_
        | refine clK_mk (h2) rfl ?_
        | refine clK_mk (h4) rfl ?_
        | refine clK_mk (h3) rfl ?_
        | simp only [go_sem, *, beq_self_eq_true])
  · rw [holdsR_err he] at h1
    simp only at h1
    have hb : (sysErr vars rows == 0) = false := by simpa using he
    have hb2 : (sysErr vars rows != 0) = true := by simpa using he
    generalize sysErr vars rows = e at *
    refine dcall_mk orders Tryz.func5 rfl (by kernel_rfl) noMu (by kernel_rfl) rfl (fun hs => ?_)
    clear hs
    repeat' (first
      | (with_reducible first | refine sA ?_ ?_ | refine sB ?_ ?_ | refine sC ?_ ?_ | refine sD ?_ ?_ | refine sE ?_ ?_ | refine sF ?_ ?_) <;> intro h
      | refine clK_mk (h1) rfl ?_
      | refine clK_mk (h2) rfl ?_
      | refine clK_mk (h4) rfl ?_
      | refine clK_mk (h3) rfl ?_
      | simp only [go_sem, *, beq_self_eq_true])
theorem typed_rv {xs : List Tr} (h : Typed Tryz.prog 140 xs) : ∃ r : RV, .agg xs = r.tr := by
  obtain ⟨hl, hf⟩ := typed_struct Tryz.underlying140 h
  obtain ⟨a, b, rfl⟩ := len2 (hl.trans (by kernel_rfl))
  simp only [List.mem_cons, List.not_mem_nil, or_false, forall_eq_or_imp, forall_eq] at hf
  simp only [go_sem] at hf
  obtain ⟨h1, h2⟩ := hf
  obtain ⟨n, e1⟩ := typed_int (k := .i64) (by kernel_rfl) h1
  obtain ⟨d, e2⟩ := typed_int (k := .i64) (by kernel_rfl) h2
  injection e1 with e1; injection e2 with e2
  subst e1; subst e2
  exact ⟨⟨n, d⟩, rfl⟩
theorem typed_rats {t : TypeId} {xs : List Tr} (hu : Tryz.prog.underlying t = some (.slice 140)) (h : Typed Tryz.prog t xs) : ∃ nn l, xs = [.sl nn (List.map RV.tr l)] := by
  refine typed_sl hu RV.tr (fun x h1 h2 _ _ => ?_) h
  obtain ⟨r, hr⟩ := typed_rv h1
  exact ⟨r, (h2 (by kernel_rfl)).trans hr⟩
end YtajgclnahfmfmaaGreat
end Go.Vm
end
section
namespace Go.Proofs.YtajgclnahfmfmaaGreat.lb
open Go.ChangeShapes Go.WideShapes Go.ChangeAt Go.RowKit
theorem and_t {a b : Bool} (h1 : a = true) (h2 : b = true) : (a && b) = true := by rw [h1, h2]; rfl
theorem own : ownKnob Tryz.prog.godebug = none := by kernel_rfl
theorem laidOut : laidOutB Tryz.prog = true := by kernel_rfl
theorem rowed : mapsRowed Tryz.prog = true := by kernel_rfl
theorem enters : Tryz.prog.mayEnter = true := by kernel_rfl
theorem lifts : (Rows.linearHoldsRow.lifted == Tryz.prog.liftsFinal) = true := by kernel_rfl
theorem made : (Tryz.prog.make == some Rows.linearHoldsRow.make) = true := by kernel_rfl
theorem keys : (Rows.linearHoldsRow.plainKeys == Tryz.prog.plainKeys) = true := by kernel_rfl
theorem heard : Tryz.prog.stopsHeard = true := by kernel_rfl
end Go.Proofs.YtajgclnahfmfmaaGreat.lb
end
