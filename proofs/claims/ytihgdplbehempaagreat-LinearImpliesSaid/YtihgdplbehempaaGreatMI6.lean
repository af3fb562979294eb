import Derived.Test.YtihgdplbehempaaGreatMI5
set_option linter.unusedSimpArgs false
set_option linter.unusedVariables false
section
set_option linter.unusedSimpArgs false
set_option maxRecDepth 10000
namespace Go.Vm
open Go Go.Proofs Go.Whole Go.Simplex
namespace YtihgdplbehempaaGreat
open Go.Proofs.Tryz
abbrev tTab : TypeId := 194
def ratsC (l : List Rat) : List PV := (flat (l.map encQ)).map .t
structure TabH (h : Hp) (T : Tab) (n W : Nat) : Prop where
  tab : hget h (18, 0) = some ⟨[.rf (164, 0) n, .rf (41, 0) W, .rf (16, 0) n, .t (i64 (T.cols : Nat))], 4, 1, tTab, true, true⟩
  cost : hget h (41, 0) = some ⟨ratsC T.cost, 6, W, tRat, true, true⟩
  basis : hget h (16, 0) = some ⟨T.basis.map (fun (b : Nat) => .t (i64 b)), 1, n, tInt, false, true⟩
  rows : hget h (164, 0) = some ⟨(List.range n).map (fun i => .rf (81, i) W), 1, n, tRats, false, true⟩
  row : ∀ i r, T.rows[i]? = some r → hget h (81, i) = some ⟨ratsC r, 6, W, tRat, true, true⟩
theorem TabH.same {h h' : Hp} {T : Tab} {n W : Nat} (t : TabH h T n W) (hs : Same h h' []) : TabH h' T n W :=
  ⟨hs _ _ (by simp) t.tab, hs _ _ (by simp) t.cost, hs _ _ (by simp) t.basis, hs _ _ (by simp) t.rows, fun i r hr => hs _ _ (by simp) (t.row i r hr)⟩
theorem ratsC_get {l : List Rat} {k : Nat} {q : Rat} (hq : l[k]? = some q) : List.take 6 (List.drop (k * 6) (ratsC l)) = (ratC q).map PV.t := rat_load hq
theorem ratsC_len (l : List Rat) : (ratsC l).length = l.length * 6 := by unfold ratsC; rw [List.length_map, rat_len]
theorem ratsC_set {l : List Rat} {k : Nat} {q : Rat} (hk : k < l.length) : splice (ratsC l) (k * 6) ((ratC q).map PV.t) = ratsC (l.set k q) := rat_store hk
def enterI (T : Tab) : Int := match enterL T with | some q => (q : Int) | none => -1
theorem sign_neg (x : Rat) : decide (x.num.sign < 0) = decide (x < 0) := rat_nonneg_iff x
theorem enter_i {h : Hp} {T : Tab} {n W : Nat} (hT : TabH h T n W) (hok : T.Ok n W) (hc : T.cols ≤ 1099511627776) :
    ICall Tryz.prog 137 [.ad (18, 0) 1 0] h (fun v h' => v = .t (i64 (enterI T)) ∧ h' = h) := by
  obtain ⟨h1, h2, h3, h4, h5⟩ := hT
  have hfind : enterL T = (List.range T.cols).find? fun j => decide (T.cost.getD j 0 < 0) := rfl
  refine icall_mk orders Tryz.func137 rfl (by kernel_rfl) noMu (by kernel_rfl) rfl (fun hs hlen => ?_)
  clear hs hlen
  repeat' (first
    | (with_reducible first | refine sA ?_ ?_ | refine sB ?_ ?_ | refine sC ?_ ?_ | refine sD ?_ ?_ | refine sE ?_ ?_ | refine sF ?_ ?_) <;> intro h
    | simp only [go_sem, *, beq_self_eq_true])
  refine loop_range (List.range (T.cols)) (fun k s' => s'.hp = h ∧ enterL T = ((List.range T.cols).drop k).find? fun j => decide (T.cost.getD j 0 < 0)) rfl (by rw [List.length_range]; rfl) (by rw [List.length_range]; first | assumption | omega) (by kernel_rfl) (fun _ _ _ _ hj => hj) (fun _ _ _ hj => hj) ?_ (fun k x s' hx hd hk hJ hix hfr G hG => ?_) (fun s' hJ hfr => ?_)
  · exact ⟨rfl, hfind⟩
  · have c0 := hfr 0 (by kernel_rfl)
    have c7 := hfr 7 (by kernel_rfl)
    clear hfr
    simp only [go_sem] at c0 c7
    obtain ⟨hh, hJ⟩ := hJ
    rw [List.length_range] at hk
    have hxk : x = k := by rw [List.getElem?_range hk] at hx; injection hx with hx; exact hx.symm
    subst hxk
    have hkw : x < W := by have := hok.wide; omega
    have hkl : x < T.cost.length := by rw [hok.cw]; exact hkw
    have hq : T.cost[x]? = some (T.cost.getD x 0) := by rw [List.getD_eq_getElem?_getD, List.getElem?_eq_getElem hkl]; rfl
    have hld := ratsC_get hq
    have hx6 : x * 6 + 6 ≤ W * 6 := by omega
    have hcl := ratsC_len T.cost
    rw [hok.cw] at hcl
    rw [hd, List.find?_cons, ← sign_neg] at hJ
    have sg := qsign_d (T.cost.getD x 0)
    generalize T.cost.getD x 0 = q at *
    clear hd hx hfind hok hc
    subst hh
    repeat' (first
      | (with_reducible first | refine sA ?_ ?_ | refine sB ?_ ?_ | refine sC ?_ ?_ | refine sD ?_ ?_ | refine sE ?_ ?_ | refine sF ?_ ?_) <;> intro h
      | refine clK_mk (sg) rfl ?_
      | simp only [go_sem, *, beq_self_eq_true])
    simp only [h] at hJ
    unfold enterI; rw [hJ]
  · have c0 := hfr 0 (by kernel_rfl)
    clear hfr
    simp only [go_sem] at c0
    obtain ⟨hh, hJ⟩ := hJ
    rw [List.drop_length] at hJ
    simp only [List.find?_nil] at hJ
    repeat' (first
      | (with_reducible first | refine sA ?_ ?_ | refine sB ?_ ?_ | refine sC ?_ ?_ | refine sD ?_ ?_ | refine sE ?_ ?_ | refine sF ?_ ?_) <;> intro h
      | simp only [go_sem, *])
    simp [enterI, hJ, hh]
theorem same_next {h h' : Hp} {s : Nat} (hs : Same h h' []) (o : Obj) : Same h (hset h' (hnext h s) o) [] := fun _ _ hn ho => set_other (hs _ _ hn ho) (.inr (ne_hnext ho)) o
def accI : Option (Nat × Rat) → Int
  | none => -1
  | some (b, _) => b
def accC : Option (Nat × Rat) → List Tr
  | none => qz
  | some (_, l) => ratC l
theorem accC_len (a : Option (Nat × Rat)) : (accC a).length = 6 := by
  cases a with
  | none => rfl
  | some x => exact ratC_length _
theorem tri (q l : Rat) : q < l ∨ q = l ∨ l < q := by
  by_cases h : q < l
  · exact .inl h
  · rcases Rat.le_iff_lt_or_eq.1 (Rat.not_lt.1 h) with h | h
    · exact .inr (.inr h)
    · exact .inr (.inl h.symm)
theorem sign_pos {x : Rat} (h : 0 < x) : x.num.sign = 1 := Int.sign_eq_one_of_pos (numQ_pos h)
theorem sign_zero {x : Rat} (h : x = 0) : x.num.sign = 0 := by subst h; rfl
theorem sign_negQ {x : Rat} (h : x < 0) : x.num.sign = -1 := by
  refine Int.sign_eq_neg_one_of_neg ?_
  have := numQ_pos (x := -x) (by grind)
  rw [Rat.neg_num] at this; omega
theorem sign_npos {x : Rat} (h : ¬ 0 < x) : decide (x.num.sign ≤ 0) = true := by
  rcases Rat.le_iff_lt_or_eq.1 (Rat.not_lt.1 h) with h | h
  · rw [sign_negQ h]; rfl
  · rw [sign_zero h]; rfl
theorem basis_get {l : List Nat} {k : Nat} (hk : k < l.length) : (l.map (fun (b : Nat) => PV.t (i64 b)))[k]? = some (.t (i64 (l.getD k 0 : Nat))) := by
  rw [List.getElem?_map, List.getElem?_eq_getElem hk, List.getD_eq_getElem?_getD, List.getElem?_eq_getElem hk]; rfl
theorem range_get {n k : Nat} {f : Nat → PV} (hk : k < n) : ((List.range n).map f)[k]? = some (f k) := by
  rw [List.getElem?_map, List.getElem?_range hk]; rfl
theorem leave_i {h : Hp} {T : Tab} {n W : Nat} (hT : TabH h T n W) (hok : T.Ok n W) {N : Nat} (hN : Fit N) (hn : n ≤ 1099511627776) (hfb : ∀ r ∈ T.rows, ∀ x ∈ r, FB x N N) {col : Nat} (hcol : col < W) {p : Nat} {x : Rat} (hp : leaveL T col T.rows 0 none = some (p, x)) :
    ICall Tryz.prog 139 [.ad (18, 0) 1 0, .t (i64 (col : Nat))] h (fun v h' => v = .t (i64 (p : Nat)) ∧ TabH h' T n W ∧ Same h h' []) := by
  obtain ⟨h1, h2, h3, h4, h5⟩ := hT
  refine icall_mk orders Tryz.func139 rfl (by kernel_rfl) (fun d => d == 6 || d == 9 || d == 27 || d == 28 || d == 31 || d == 33 || d == 35 || d == 50 || d == 51 || d == 52 || d == 53 || d == 55 || d == 57 || d == 58 || d == 59 || d == 60 || d == 62) (by kernel_rfl) rfl (fun hs hlen => ?_)
  have hW : W ≤ 9223372036854775807 := hlen _ _ h2
  have hW1 : 1 ≤ W := by omega
  have hwr : IntKind.i64.wrap ((W : Int) - 1) = ((W - 1 : Nat) : Int) := by rw [wrap_i64 (by omega) (by omega)]; omega
  clear hs hlen
  have k1 := fun o => hget_new_old h1 (s := 6) o
  have k2 := fun o => hget_new_old h2 (s := 6) o
  have k4 := fun o => hget_new_old h4 (s := 6) o
  repeat' (first
    | (with_reducible first | refine sA ?_ ?_ | refine sB ?_ ?_ | refine sC ?_ ?_ | refine sD ?_ ?_ | refine sE ?_ ?_ | refine sF ?_ ?_) <;> intro h
    | simp only [go_sem, *, beq_self_eq_true])
  refine loop_range (List.range (n)) (fun k s' => ∃ acc : Option (Nat × Rat), s'.sl 5 = .t (i64 (accI acc)) ∧ hget s'.hp (hnext h 6) = some ⟨(accC acc).map .t, 6, 1, tRat, true, true⟩ ∧ Same h s'.hp [] ∧ leaveL T col T.rows 0 none = leaveL T col (T.rows.drop k) k acc ∧ ∀ b l, acc = some (b, l) → b < n ∧ FB l (N * N) (N * N)) rfl (by rw [List.length_range]; rfl) (by rw [List.length_range]; first | assumption | omega) (by kernel_rfl) (fun _ _ _ _ hj => hj) (fun _ _ _ hj => hj) ?_ (fun k x s' hx hd hk hJ hix hfr G hG => ?_) (fun s' hJ hfr => ?_)
  · exact ⟨none, rfl, hget_new _ _, Same.new h 6 _, rfl, fun b l hh => nomatch hh⟩
  · have c0 := hfr 0 (by kernel_rfl)
    have c1 := hfr 1 (by kernel_rfl)
    have c6 := hfr 6 (by kernel_rfl)
    have c14 := hfr 14 (by kernel_rfl)
    clear hfr
    simp only [go_sem] at c0 c1 c6 c14
    obtain ⟨acc, c5, h6, hsm, hJ, hacc⟩ := hJ
    rw [List.length_range] at hk
    have hxk : x = k := by rw [List.getElem?_range hk] at hx; injection hx with hx; exact hx.symm
    subst hxk
    have hxr : x < T.rows.length := by rw [hok.rn]; exact hk
    obtain ⟨r, hr, hdr⟩ := get_of_lt T.rows x hxr
    have hrm := List.mem_of_getElem? hr
    have hrl := hok.rw' r hrm
    have g1 := hsm _ _ (by simp) h1
    have g3 := hsm _ _ (by simp) h3
    have g4 := hsm _ _ (by simp) h4
    have g5 := hsm _ _ (by simp) (h5 x r hr)
    have n1 := fun o => hget_new_old g1 (s := 9) o
    have n3 := fun o => hget_new_old g3 (s := 9) o
    have n6 := fun o => hget_new_old h6 (s := 9) o
    have e9 : ∀ o, Same h (hnew s'.hp 9 o) [] := fun o => (hsm.trans (Same.new _ 9 o)).mono (by simp)
    have hrg := range_get (f := fun i => .rf (81, i) W) hk
    have hcq : r[col]? = some (r.getD col 0) := by rw [List.getD_eq_getElem?_getD, List.getElem?_eq_getElem (by omega)]; rfl
    have hlq : r[W - 1]? = some (r.getD (W - 1) 0) := by rw [List.getD_eq_getElem?_getD, List.getElem?_eq_getElem (by omega)]; rfl
    have hl1 := ratsC_get hcq
    have hl2 := ratsC_get hlq
    have hf1 := hfb r hrm _ (List.mem_of_getElem? hcq)
    have hf2 := hfb r hrm _ (List.mem_of_getElem? hlq)
    have hcl := ratsC_len r
    rw [hrl] at hcl
    rw [hdr, leaveL, hrl] at hJ
    have sg := qsign_d (r.getD col 0)
    have hc6 : col * 6 + 6 ≤ W * 6 := by omega
    have hw6 : (W - 1) * 6 + 6 ≤ W * 6 := by omega
    have hww : W - 1 < W := by omega
    have hacl := accC_len acc
    generalize r.getD col 0 = a at *
    generalize r.getD (W - 1) 0 = z at *
    by_cases hpos : 0 < a
    · have ha0 : a ≠ 0 := fun h => by rw [h] at hpos; exact absurd hpos (by decide)
      rw [sign_pos hpos] at sg
      have hq := FB.mul hf2 (hf1.inv hpos)
      have w1 := qinv_d a (hf1.q1 hN) ha0
      have w2 := qmul_d z a⁻¹ (hf2.q1 hN) ((hf1.inv hpos).q1 hN)
      simp only [hpos, true_and] at hJ
      clear hcq hlq hdr hd hx hfb hf1 hf2
      cases acc with
      | none =>
        simp only [better, if_true] at hJ
        replace c5 : s'.sl 5 = .t (i64 (-1)) := c5
        have hdp : List.drop 6 (List.map PV.t (accC none)) = [] := rfl
        have hqn : (ratC (z * a⁻¹)).length = 6 := ratC_length _
        have hne := ne_hnext (s := 9) h6
        have gm : decide ((-1 : Int) ≥ 0) = false := rfl
        repeat' (first
          | (with_reducible first | refine sA ?_ ?_ | refine sB ?_ ?_ | refine sC ?_ ?_ | refine sD ?_ ?_ | refine sE ?_ ?_ | refine sF ?_ ?_) <;> intro h
          | refine clK_mk (sg) rfl ?_
          | refine clK_mk (w1) rfl ?_
          | refine clK_mk (w2) rfl ?_
          | simp only [go_sem, *, beq_self_eq_true])
        refine hG _ ⟨some (x, z * a⁻¹), rfl, set_same (n6 _) _, same_next (e9 _) _, hJ, ?_⟩
        intro b l hbl
        injection hbl with hbl
        injection hbl with hb hl
        subst hb; subst hl
        exact ⟨hk, hq⟩
      | some bl =>
        obtain ⟨b, l⟩ := bl
        obtain ⟨hbn, hlf⟩ := hacc b l rfl
        have gb : decide ((b : Int) ≥ 0) = true := decide_eq_true (by omega)
        replace c5 : s'.sl 5 = .t (i64 (b : Nat)) := c5
        have hdp : List.drop 6 (List.map PV.t (ratC l)) = [] := List.drop_of_length_le (by rw [List.length_map, ratC_length]; exact Nat.le_refl _)
        have hxb : x < T.basis.length := by rw [hok.bn]; exact hk
        have hbb : b < T.basis.length := by rw [hok.bn]; exact hbn
        have hgx := basis_get hxb
        have hgb := basis_get hbb
        have w3 := qcmp_d (z * a⁻¹) l (hq.q2 hN) (hlf.q2 hN)
        have ho : ∀ o, hget (hnew s'.hp 9 o) (hnext h 6) = some ⟨(ratC l).map .t, 6, 1, tRat, true, true⟩ := n6
        clear n6 hacc
        have hqn : (ratC (z * a⁻¹)).length = 6 := ratC_length _
        simp only [better] at hJ
        generalize z * a⁻¹ = q at *
        rcases tri q l with hc | hc | hc
        · rw [sign_negQ (by grind)] at w3
          have g1 : decide ((-1 : Int) > 0) = false := rfl
          have g2 : ((-1 : Int) == 0) = false := rfl
          simp only [hc, decide_true, Bool.true_or, if_true] at hJ
          repeat' (first
            | (with_reducible first | refine sA ?_ ?_ | refine sB ?_ ?_ | refine sC ?_ ?_ | refine sD ?_ ?_ | refine sE ?_ ?_ | refine sF ?_ ?_) <;> intro h
            | refine clK_mk (sg) rfl ?_
            | refine clK_mk (w1) rfl ?_
            | refine clK_mk (w2) rfl ?_
            | refine clK_mk (w3) rfl ?_
            | simp only [go_sem, *, beq_self_eq_true])
          refine hG _ ⟨some (x, q), rfl, set_same (ho _) _, same_next (e9 _) _, hJ, ?_⟩
          intro b' l' hbl
          injection hbl with hbl
          injection hbl with hb hl
          subst hb; subst hl
          exact ⟨hk, hq⟩
        · rw [sign_zero (by grind)] at w3
          have g1 : decide ((0 : Int) > 0) = false := rfl
          have g2 : ((0 : Int) == 0) = true := rfl
          have hnl : ¬ q < l := by rw [hc]; exact Rat.lt_irrefl
          subst hc
          by_cases hbs : T.basis.getD x 0 ≤ T.basis.getD b 0
          · have g3 : decide (((T.basis.getD x 0 : Nat) : Int) > ((T.basis.getD b 0 : Nat) : Int)) = false := decide_eq_false (by omega)
            simp only [hbs, decide_true, Bool.and_self, Bool.or_true, if_true] at hJ
            repeat' (first
              | (with_reducible first | refine sA ?_ ?_ | refine sB ?_ ?_ | refine sC ?_ ?_ | refine sD ?_ ?_ | refine sE ?_ ?_ | refine sF ?_ ?_) <;> intro h
              | refine clK_mk (sg) rfl ?_
              | refine clK_mk (w1) rfl ?_
              | refine clK_mk (w2) rfl ?_
              | refine clK_mk (w3) rfl ?_
              | simp only [go_sem, *, beq_self_eq_true])
            refine hG _ ⟨some (x, q), rfl, set_same (ho _) _, same_next (e9 _) _, hJ, ?_⟩
            intro b' l' hbl
            injection hbl with hbl
            injection hbl with hb hl
            subst hb; subst hl
            exact ⟨hk, hq⟩
          · have g3 : decide (((T.basis.getD x 0 : Nat) : Int) > ((T.basis.getD b 0 : Nat) : Int)) = true := decide_eq_true (by omega)
            simp only [hnl, hbs, decide_false, Bool.and_false, Bool.or_false, Bool.false_eq_true, if_false] at hJ
            repeat' (first
              | (with_reducible first | refine sA ?_ ?_ | refine sB ?_ ?_ | refine sC ?_ ?_ | refine sD ?_ ?_ | refine sE ?_ ?_ | refine sF ?_ ?_) <;> intro h
              | refine clK_mk (sg) rfl ?_
              | refine clK_mk (w1) rfl ?_
              | refine clK_mk (w2) rfl ?_
              | refine clK_mk (w3) rfl ?_
              | simp only [go_sem, *, beq_self_eq_true])
            refine hG _ ⟨some (b, q), c5, ho _, e9 _, hJ, ?_⟩
            intro b' l' hbl
            injection hbl with hbl
            injection hbl with hb hl
            subst hb; subst hl
            exact ⟨hbn, hq⟩
        · rw [sign_pos (by grind)] at w3
          have g1 : decide ((1 : Int) > 0) = true := rfl
          have hnl : ¬ q < l := by grind
          have hne : ¬ q = l := by grind
          simp only [hnl, hne, decide_false, Bool.false_and, Bool.or_false, Bool.false_eq_true, if_false] at hJ
          repeat' (first
            | (with_reducible first | refine sA ?_ ?_ | refine sB ?_ ?_ | refine sC ?_ ?_ | refine sD ?_ ?_ | refine sE ?_ ?_ | refine sF ?_ ?_) <;> intro h
            | refine clK_mk (sg) rfl ?_
            | refine clK_mk (w1) rfl ?_
            | refine clK_mk (w2) rfl ?_
            | refine clK_mk (w3) rfl ?_
            | simp only [go_sem, *, beq_self_eq_true])
          refine hG _ ⟨some (b, l), c5, ho _, e9 _, hJ, ?_⟩
          intro b' l' hbl
          injection hbl with hbl
          injection hbl with hb hl
          subst hb; subst hl
          exact ⟨hbn, hlf⟩
    · have gs := sign_npos hpos
      simp only [hpos, false_and, if_false] at hJ
      clear hcq hlq hdr hd hx hfb hf1 hf2
      repeat' (first
        | (with_reducible first | refine sA ?_ ?_ | refine sB ?_ ?_ | refine sC ?_ ?_ | refine sD ?_ ?_ | refine sE ?_ ?_ | refine sF ?_ ?_) <;> intro h
        | refine clK_mk (sg) rfl ?_
        | simp only [go_sem, *, beq_self_eq_true])
      exact hG _ ⟨acc, c5, h6, hsm, hJ, hacc⟩
  · have c0 := hfr 0 (by kernel_rfl)
    clear hfr
    simp only [go_sem] at c0
    obtain ⟨acc, c5, h6, hsm, hJ, hacc⟩ := hJ
    rw [List.length_range, List.drop_of_length_le (by rw [hok.rn]; exact Nat.le_refl _), leaveL, hp] at hJ
    subst hJ
    replace c5 : s'.sl 5 = .t (i64 (p : Nat)) := c5
    have hT' : TabH s'.hp T n W := (TabH.mk h1 h2 h3 h4 h5).same hsm
    repeat' (first
      | (with_reducible first | refine sA ?_ ?_ | refine sB ?_ ?_ | refine sC ?_ ?_ | refine sD ?_ ?_ | refine sE ?_ ?_ | refine sF ?_ ?_) <;> intro h
      | simp only [go_sem, *])
end YtihgdplbehempaaGreat
end Go.Vm
end
section
set_option linter.unusedSimpArgs false
set_option maxRecDepth 10000
namespace Go.Vm
open Go Go.Proofs Go.Whole Go.Simplex
namespace YtihgdplbehempaaGreat
open Go.Proofs.Tryz
def Keep (h h' : Hp) : Prop := ∀ id o, (id.1 == 81) = false → (id.1 == 41) = false → (id.1 == 16) = false → hget h id = some o → hget h' id = some o
theorem Keep.trans {a b c : Hp} (x : Keep a b) (y : Keep b c) : Keep a c := fun id o h1 h2 h3 h => y id o h1 h2 h3 (x id o h1 h2 h3 h)
theorem Keep.of {a b : Hp} {i : Nat} (x : Same a b [(81, i)]) : Keep a b := fun id o h1 _ _ h => x id o (by intro e; simp at e; subst e; simp at h1) h
theorem Keep.of41 {a b : Hp} (x : Same a b [(41, 0)]) : Keep a b := fun id o _ h2 _ h => x id o (by intro e; simp at e; subst e; simp at h2) h
theorem FB.q3 {x : Rat} {N : Nat} (hN : Fit N) (h : FB x (N * (N * N)) (N * (N * N))) : qfits x := by
  have hl := hN.le
  have hl2 := hN.2
  have e : 100000 = 50000 + 50000 := rfl
  have h1 : N * (N * N) < B ^ 100000 := by
    generalize 100000 = m at *
    generalize 50000 = k at *
    subst e
    rw [Nat.pow_add]
    exact Nat.mul_lt_mul'' hl hl2
  clear hl hl2 e
  exact h.fits h1 h1 (Nat.le_refl _)
theorem less_w {h : Hp} {id id2 : Id} {r p : List Rat} {W col N : Nat} (hN : Fit N) (hl1 : r.length = W) (hl2 : p.length = W) (hc : col < W) (hne : (id == id2) = false) (hr : hget h id = some ⟨ratsC r, 6, W, tRat, true, true⟩) (hp : hget h id2 = some ⟨ratsC p, 6, W, tRat, true, true⟩)
    (f1 : ∀ x ∈ r, FB x N N) (f2 : ∀ x ∈ p, FB x (N * N) (N * N)) :
    ICall Tryz.prog 208 [.rf id W, .rf id2 W, .t (i64 col)] h (fun _ h' => hget h' id = some ⟨ratsC (lessL r p col), 6, W, tRat, true, true⟩ ∧ Same h h' [id]) := by
  have hcol : r.getD col 0 ∈ r := getD_mem (by omega)
  have hll : (lessL r p col).length = W := by unfold lessL; rw [List.length_zipWith]; omega
  have := less_i h id id2 r p col (by omega) (by omega) (by omega) hne (by rw [hr]; unfold rowO; rw [hl1]; rfl) (by rw [hp]; unfold rowO; rw [hl2]; rfl) (fun x hx => (f1 x hx).q1 hN) (fun x hx => (f2 x hx).q2 hN) (fun x hx => ((f1 _ hcol).mul (f2 x hx)).q3 hN)
  unfold rowO at this
  rw [hl1, hl2, hll] at this
  exact this
theorem pivot_i {h : Hp} {T : Tab} {n W : Nat} (hT : TabH h T n W) (hok : T.Ok n W) {N : Nat} (hN : Fit N) (hn : n ≤ 1099511627776) (hfb : ∀ r ∈ T.rows, ∀ x ∈ r, FB x N N) (hfc : ∀ x ∈ T.cost, FB x N N) {p q : Nat} (hp : p < n) (hq : q < W) (hpos : 0 < (T.row p).getD q 0) :
    ICall Tryz.prog 138 [.ad (18, 0) 1 0, .t (i64 (p : Nat)), .t (i64 (q : Nat))] h (fun _ h' => TabH h' (pivotL T p q) n W ∧ Keep h h') := by
  obtain ⟨h1, h2, h3, h4, h5⟩ := hT
  have hpl : p < T.rows.length := by rw [hok.rn]; exact hp
  obtain ⟨r, hr, _⟩ := get_of_lt T.rows p hpl
  have hrow : T.row p = r := by simp [Tab.row, List.getD_eq_getElem?_getD, hr]
  have hrm := List.mem_of_getElem? hr
  have hrl := hok.rw' r hrm
  have hpiv : pivotL T p q = ⟨T.rows.mapIdx (fun i x => if i = p then r.map (· * (r.getD q 0)⁻¹) else lessL x (r.map (· * (r.getD q 0)⁻¹)) q), lessL T.cost (r.map (· * (r.getD q 0)⁻¹)) q, T.basis.set p q, T.cols⟩ := by
    unfold pivotL; rw [hrow]
  rw [hrow] at hpos
  rw [hpiv]
  clear hpiv hrow
  have h5p := h5 p r hr
  have hqr : r[q]? = some (r.getD q 0) := by rw [List.getD_eq_getElem?_getD, List.getElem?_eq_getElem (by omega)]; rfl
  have hlq := ratsC_get hqr
  have hf1 := hfb r hrm _ (List.mem_of_getElem? hqr)
  have hcl := ratsC_len r
  rw [hrl] at hcl
  have hq6 : q * 6 + 6 ≤ W * 6 := by omega
  have hrg := range_get (f := fun i => .rf (81, i) W) hp
  generalize r.getD q 0 = e at *
  have he0 : e ≠ 0 := fun h => by rw [h] at hpos; exact absurd hpos (by decide)
  have w1 := qinv_d e (hf1.q1 hN) he0
  have hfi := hf1.inv hpos
  have k1 := fun o => hget_new_old h1 (s := 7) o
  have k5 := fun o => hget_new_old h5p (s := 7) o
  refine icall_mk orders Tryz.func138 rfl (by kernel_rfl) (fun d => d == 7 || d == 34 || d == 36 || d == 38 || d == 42) (by kernel_rfl) rfl (fun hs hlen => ?_)
  have hW : W ≤ 9223372036854775807 := hlen _ _ h2
  clear hs hlen
  repeat' (first
    | (with_reducible first | refine sA ?_ ?_ | refine sB ?_ ?_ | refine sC ?_ ?_ | refine sD ?_ ?_ | refine sE ?_ ?_ | refine sF ?_ ?_) <;> intro h
    | refine clK_mk (w1) rfl ?_
    | simp only [go_sem, *, beq_self_eq_true])
  refine loop_range (List.range (W)) (fun k s' => ∃ cur : List Rat, hget s'.hp (81, p) = some ⟨ratsC cur, 6, W, tRat, true, true⟩ ∧ hget s'.hp (hnext h 7) = some ⟨(ratC e⁻¹).map .t, 6, 1, tRat, true, true⟩ ∧ Same h s'.hp [(81, p)] ∧ cur.length = W ∧ cur.drop k = r.drop k ∧ cur.take k = (r.map (· * e⁻¹)).take k) rfl (by rw [List.length_range]; rfl) (by rw [List.length_range]; first | assumption | omega) (by kernel_rfl) (fun _ _ _ _ hj => hj) (fun _ _ _ hj => hj) ?_ (fun k x s' hx hd hk hJ hix hfr G hG => ?_) (fun s' hJ hfr => ?_)
  · exact ⟨r, k5 _, hget_new _ _, (Same.new h 7 _).mono (by simp), hrl, rfl, rfl⟩
  · have c6 := hfr 6 (by kernel_rfl)
    have c7 := hfr 7 (by kernel_rfl)
    clear hfr
    simp only [go_sem] at c6 c7
    obtain ⟨cur, g1, g7, hsm, hcul, hdr, htk⟩ := hJ
    rw [List.length_range] at hk
    have hxk : x = k := by rw [List.getElem?_range hk] at hx; injection hx with hx; exact hx.symm
    subst hxk
    obtain ⟨y, hy, _⟩ := get_of_lt r x (by omega)
    have hcy : cur[x]? = some y := by
      have := congrArg (fun l => l[0]?) hdr
      simp only [List.getElem?_drop, Nat.add_zero] at this
      rw [this, hy]
    have hly := ratsC_get hcy
    have hyf := hfb r hrm _ (List.mem_of_getElem? hy)
    have hcc := ratsC_len cur
    rw [hcul] at hcc
    have hx6 : x * 6 + 6 ≤ W * 6 := by omega
    have hmy : (r.map (· * e⁻¹))[x]? = some (y * e⁻¹) := by rw [List.getElem?_map, hy]; rfl
    have sg := qsign_d y
    clear hd hx hqr hlq
    by_cases hy0 : y = 0
    · rw [sign_zero hy0] at sg
      have gz : ((0 : Int) != 0) = false := rfl
      subst hy0
      rw [show (0 : Rat) * e⁻¹ = 0 by grind] at hmy
      repeat' (first
        | (with_reducible first | refine sA ?_ ?_ | refine sB ?_ ?_ | refine sC ?_ ?_ | refine sD ?_ ?_ | refine sE ?_ ?_ | refine sF ?_ ?_) <;> intro h
        | refine clK_mk (sg) rfl ?_
        | simp only [go_sem, *, beq_self_eq_true])
      refine hG _ ⟨cur, g1, g7, hsm, hcul, ?_, ?_⟩
      · have := congrArg List.tail hdr; simpa using this
      · rw [List.take_add_one, List.take_add_one, htk, hcy, hmy]
    · have gx : (y.num.sign != 0) = true := by
        have : y.num ≠ 0 := fun h => hy0 (Rat.num_eq_zero.1 h)
        rw [bne_iff_ne]
        exact fun hh => this (Int.sign_eq_zero_iff_zero.1 hh)
      have w2 := qmul_d y e⁻¹ (hyf.q1 hN) (hfi.q1 hN)
      have hst := ratsC_set (l := cur) (k := x) (q := y * e⁻¹) (by omega)
      have hqn : (ratC (y * e⁻¹)).length = 6 := ratC_length _
      have hb7 := ne_hnext (s := 7) h5p
      repeat' (first
        | (with_reducible first | refine sA ?_ ?_ | refine sB ?_ ?_ | refine sC ?_ ?_ | refine sD ?_ ?_ | refine sE ?_ ?_ | refine sF ?_ ?_) <;> intro h
        | refine clK_mk (sg) rfl ?_
        | refine clK_mk (w2) rfl ?_
        | simp only [go_sem, *, beq_self_eq_true])
      refine hG _ ⟨cur.set x (y * e⁻¹), set_same g1 _, set_other g7 (.inl hb7) _, (hsm.trans (Same.set _ _ _)).mono (by simp), by simp [hcul], ?_, ?_⟩
      · rw [List.drop_set_of_lt (by omega)]
        have := congrArg List.tail hdr; simpa using this
      · rw [take_set_succ _ _ _ (by omega), htk, List.take_add_one, hmy]; rfl
  · have c0 := hfr 0 (by kernel_rfl)
    have c1 := hfr 1 (by kernel_rfl)
    have c2 := hfr 2 (by kernel_rfl)
    have c6 := hfr 6 (by kernel_rfl)
    clear hfr
    simp only [go_sem] at c0 c1 c2 c6
    obtain ⟨R, g1, _, hsm, hRl, _, htk⟩ := hJ
    rw [List.length_range, List.take_of_length_le (by omega), List.take_of_length_le (by simp; omega)] at htk
    have hRf : ∀ x ∈ R, FB x (N * N) (N * N) := fun x hx => by
      rw [htk] at hx
      obtain ⟨z, hz, rfl⟩ := List.mem_map.1 hx
      exact (hfb r hrm z hz).mul hfi
    rw [← htk]
    have hkp := Keep.of hsm
    have m1 := hsm _ _ (by simp) h1
    have m2 := hsm _ _ (by simp) h2
    have m3 := hsm _ _ (by simp) h3
    have m4 := hsm _ _ (by simp) h4
    have m5 : ∀ i x, T.rows[i]? = some x → i ≠ p → hget s'.hp (81, i) = some ⟨ratsC x, 6, W, tRat, true, true⟩ := fun i x hx hi => hsm _ _ (by simpa using hi) (h5 i x hx)
    clear hqr hlq k1 k5 hsm htk w1
    repeat' (first
      | (with_reducible first | refine sA ?_ ?_ | refine sB ?_ ?_ | refine sC ?_ ?_ | refine sD ?_ ?_ | refine sE ?_ ?_ | refine sF ?_ ?_) <;> intro h
      | simp only [go_sem, *, beq_self_eq_true])
    refine loop_range (List.range (n)) (fun k s' => (∀ i x, T.rows[i]? = some x → hget s'.hp (81, i) = some ⟨ratsC (if i = p then R else if i < k then lessL x R q else x), 6, W, tRat, true, true⟩) ∧ Keep h s'.hp ∧ hget s'.hp (41, 0) = some ⟨ratsC T.cost, 6, W, tRat, true, true⟩ ∧ hget s'.hp (16, 0) = some ⟨T.basis.map (fun (b : Nat) => .t (i64 b)), 1, n, tInt, false, true⟩) rfl (by rw [List.length_range]; rfl) (by rw [List.length_range]; first | assumption | omega) (by kernel_rfl) (fun _ _ _ _ hj => hj) (fun _ _ _ hj => hj) ?_ (fun k x s' hx hd hk hJ hix hfr G hG => ?_) (fun s' hJ hfr => ?_)
    · refine ⟨fun i x hx => ?_, hkp, m2, m3⟩
      by_cases hi : i = p
      · subst hi; rw [if_pos rfl]; exact g1
      · rw [if_neg hi, if_neg (by omega)]; exact m5 i x hx hi
    · have c0 := hfr 0 (by kernel_rfl)
      have c1 := hfr 1 (by kernel_rfl)
      have c2 := hfr 2 (by kernel_rfl)
      have c6 := hfr 6 (by kernel_rfl)
      have c47 := hfr 47 (by kernel_rfl)
      clear hfr
      simp only [go_sem] at c0 c1 c2 c6 c47
      obtain ⟨hrw, hkp2, mc, mb⟩ := hJ
      rw [List.length_range] at hk
      have hxk : x = k := by rw [List.getElem?_range hk] at hx; injection hx with hx; exact hx.symm
      subst hxk
      have hxr : x < T.rows.length := by rw [hok.rn]; exact hk
      obtain ⟨z, hz, _⟩ := get_of_lt T.rows x hxr
      have hzm := List.mem_of_getElem? hz
      have hzl := hok.rw' z hzm
      have mt := hkp2 _ _ rfl rfl rfl h1
      have mr := hkp2 _ _ rfl rfl rfl h4
      have hrg2 := range_get (f := fun i => .rf (81, i) W) hk
      have hgz := hrw x z hz
      have hgp := hrw p r hr
      rw [if_pos rfl] at hgp
      clear hd hx m1 m2 m3 m4 m5 g1
      by_cases hxp : x = p
      · subst hxp
        have gx : ((x : Int) != (x : Int)) = false := by simp
        repeat' (first
          | (with_reducible first | refine sA ?_ ?_ | refine sB ?_ ?_ | refine sC ?_ ?_ | refine sD ?_ ?_ | refine sE ?_ ?_ | refine sF ?_ ?_) <;> intro h
          | simp only [go_sem, *, beq_self_eq_true])
        refine hG _ ⟨fun i y hy => ?_, hkp2, mc, mb⟩
        rw [hrw i y hy]
        by_cases hi : i = x
        · rw [if_pos hi, if_pos hi]
        · rw [if_neg hi, if_neg hi]
          by_cases h3 : i < x
          · rw [if_pos h3, if_pos (by omega)]
          · rw [if_neg h3, if_neg (by omega)]
      · have gx : ((x : Int) != (p : Int)) = true := by rw [bne_iff_ne]; omega
        rw [if_neg hxp, if_neg (by omega)] at hgz
        have hl := less_w (h := s'.hp) (id := (81, x)) (id2 := (81, p)) (r := z) (p := R) (W := W) (col := q) hN hzl (by omega) hq (by simpa using hxp) hgz hgp (hfb z hzm) hRf
        repeat' (first
          | (with_reducible first | refine sA ?_ ?_ | refine sB ?_ ?_ | refine sC ?_ ?_ | refine sD ?_ ?_ | refine sE ?_ ?_ | refine sF ?_ ?_) <;> intro h
          | simp only [go_sem, *, beq_self_eq_true])
        refine clK_ic hl (fun v h' hQ => ?_)
        obtain ⟨q1, q2⟩ := hQ
        repeat' (first
          | (with_reducible first | refine sA ?_ ?_ | refine sB ?_ ?_ | refine sC ?_ ?_ | refine sD ?_ ?_ | refine sE ?_ ?_ | refine sF ?_ ?_) <;> intro h
          | simp only [go_sem, *, beq_self_eq_true])
        refine hG _ ⟨fun i y hy => ?_, hkp2.trans (Keep.of q2), q2 _ _ (by simp) mc, q2 _ _ (by simp) mb⟩
        by_cases hi : i = x
        · subst hi
          rw [if_neg hxp, if_pos (by omega)]
          rw [hz] at hy; injection hy with hy; subst hy
          exact q1
        · have := q2 _ _ (by simpa using hi) (hrw i y hy)
          rw [this]
          by_cases h3 : i = p
          · rw [if_pos h3, if_pos h3]
          · rw [if_neg h3, if_neg h3]
            by_cases h4 : i < x
            · rw [if_pos h4, if_pos (by omega)]
            · rw [if_neg h4, if_neg (by omega)]
    · have c0 := hfr 0 (by kernel_rfl)
      have c1 := hfr 1 (by kernel_rfl)
      have c2 := hfr 2 (by kernel_rfl)
      have c6 := hfr 6 (by kernel_rfl)
      clear hfr
      simp only [go_sem] at c0 c1 c2 c6
      obtain ⟨hrw, hkp2, mc, mb⟩ := hJ
      rw [List.length_range] at hrw
      have mt := hkp2 _ _ rfl rfl rfl h1
      have hgp := hrw p r hr
      rw [if_pos rfl] at hgp
      clear m1 m2 m3 m4 m5 g1
      have hl := less_w (h := s'.hp) (id := (41, 0)) (id2 := (81, p)) (r := T.cost) (p := R) (W := W) (col := q) hN hok.cw (by omega) hq rfl mc hgp hfc hRf
      repeat' (first
        | (with_reducible first | refine sA ?_ ?_ | refine sB ?_ ?_ | refine sC ?_ ?_ | refine sD ?_ ?_ | refine sE ?_ ?_ | refine sF ?_ ?_) <;> intro h
        | simp only [go_sem, *, beq_self_eq_true])
      refine clK_ic hl (fun v h' hQ => ?_)
      obtain ⟨q1, q2⟩ := hQ
      have mt2 := q2 _ _ (by simp) mt
      have mb2 := q2 _ _ (by simp) mb
      have hbl : p + 1 ≤ T.basis.length := by rw [hok.bn]; exact hp
      have hbs : splice (T.basis.map (fun (b : Nat) => PV.t (i64 b))) p [.t (.int .i64 (q : Int))] = (T.basis.set p q).map (fun (b : Nat) => PV.t (i64 b)) := by
        rw [List.map_set]
        exact set_splice _ _ _ (by rw [List.length_map]; exact hbl)
      repeat' (first
        | (with_reducible first | refine sA ?_ ?_ | refine sB ?_ ?_ | refine sC ?_ ?_ | refine sD ?_ ?_ | refine sE ?_ ?_ | refine sF ?_ ?_) <;> intro h
        | simp only [go_sem, *, beq_self_eq_true])
      refine ⟨⟨set_other mt2 (.inl rfl) _, set_other q1 (.inl rfl) _, set_same mb2 _, ?_, fun i y hy => ?_⟩, ?_⟩
      · exact set_other (q2 _ _ (by simp) (hkp2 _ _ rfl rfl rfl h4)) (.inl rfl) _
      · rw [List.getElem?_mapIdx] at hy
        cases hz : T.rows[i]? with
        | none => rw [hz] at hy; simp at hy
        | some z =>
          rw [hz] at hy
          simp only [Option.map_some, Option.some.injEq] at hy
          have hin : i < n := by rw [← hok.rn]; exact (List.getElem?_eq_some_iff.1 hz).1
          refine set_other ?_ (.inl (by simp)) _
          rw [q2 _ _ (by simp) (hrw i z hz), if_pos hin, hy]
      · refine (hkp2.trans (Keep.of41 q2)).trans ?_
        intro id o _ _ h16 ho
        exact set_other ho (.inl (by rw [beq_eq_false_iff_ne]; intro e; subst e; simp at h16)) _
end YtihgdplbehempaaGreat
end Go.Vm
end
section
set_option linter.unusedSimpArgs false
set_option maxRecDepth 10000
namespace Go.Vm
open Go Go.Proofs Go.Whole Go.Simplex
namespace YtihgdplbehempaaGreat
open Go.Proofs.Tryz
abbrev tBl : TypeId := 4
def encM (b : Bool) (m : List (List Rat)) : Tr := .sl true (m.map fun r => .sl b (r.map encQ))
theorem set_len (h : Hp) (id : Id) (o : Obj) (s : Nat) : (hset h id o s).length = (h s).length := by
  unfold hset upd
  split
  · rename_i e; subst e; simp
  · rfl
theorem new_len {h : Hp} {s s' : Nat} (o : Obj) (hn : (s' == s) = false) : (hnew h s o s').length = (h s').length := by
  unfold hnew upd
  rw [if_neg (by rw [beq_eq_false_iff_ne] at hn; exact hn)]
theorem new_len_same (h : Hp) (s : Nat) (o : Obj) : (hnew h s o s).length = (h s).length + 1 := by
  simp [hnew, upd]
theorem hnext_of {h : Hp} {s k : Nat} (hl : (h s).length = k) : hnext h s = (s, k) := by unfold hnext; rw [hl]
theorem hnext_fstS (h : Hp) (s : Nat) : (hnext h s).1 = s := rfl
theorem hnext_nil (s : Nat) : hnext (fun _ => []) s = (s, 0) := rfl
theorem hnext_new {h : Hp} {s s' : Nat} (o : Obj) (hn : (s' == s) = false) : hnext (hnew h s o) s' = hnext h s' := by
  unfold hnext; rw [new_len o hn]
theorem hnext_set (h : Hp) (id : Id) (o : Obj) (s : Nat) : hnext (hset h id o) s = hnext h s := by
  unfold hnext; rw [set_len]
theorem hget_new' {h : Hp} {s k : Nat} (o : Obj) (hl : (h s).length = k) : hget (hnew h s o) (s, k) = some o := by
  rw [← hnext_of hl]; exact hget_new _ _
theorem hget_new0 (h : Hp) (s : Nat) (o : Obj) (hl : h s = []) : hget (hnew h s o) (s, 0) = some o := hget_new' o (by rw [hl]; rfl)
theorem zrow_one (n : Nat) (x : Tr) : zrow [x] n = List.replicate n x := by
  induction n with
  | zero => rfl
  | succ n ih => simp [zrow, ih, List.replicate_succ]
theorem append_rR {P : Program} {mu : Nat → Bool} {h : Hp} {d : Option Tmp} {t e e2 : TypeId} {id id2 : Id} {n k by_ esz : Nat} {cs cs2 : List PV} {ag ag2 lv : Bool} (hel : elemB P t = some e) (hsz : P.cellsOf e = esz) (hz : (zeroB P e).map List.length = some esz) (h1 : Nat.blt 0 esz = true) (hby : P.bytesOf e = by_)
    (hg : hget h id = some ⟨cs, esz, n, e, ag, true⟩) (hg2 : hget h id2 = some ⟨cs2, esz, k, e2, ag2, lv⟩) (hb : (n + k) * by_ ≤ 140737488355328 ∧ n + k ≤ 4611686018427387904) (hk : k ≠ 0) :
    appendPV P mu d t (.rf id n) (.rf id2 k) h = some (.rf id (n + k), hset h id ⟨cs ++ cs2, esz, n + k, e, ag, true⟩) := by
  have hpos : 0 < esz := by simp [Nat.blt] at h1; omega
  obtain ⟨z, hz1, hz2⟩ : ∃ z, zeroB P e = some z ∧ z.length = esz := by
    cases hzz : zeroB P e with
    | none => rw [hzz] at hz; cases hz
    | some z => rw [hzz] at hz; exact ⟨z, rfl, by simpa using hz⟩
  unfold appendPV
  simp only [hel, hz1, srcPV, hg2, hsz, and_self, if_true, hz2, true_and, hg, hby]
  rw [if_pos hpos, if_pos hb, if_neg hk]
theorem append_nR {P : Program} {mu : Nat → Bool} {h : Hp} {d : Tmp} {t e e2 : TypeId} {id2 : Id} {k by_ esz : Nat} {cs2 : List PV} {ag ag2 lv : Bool} (hel : elemB P t = some e) (hsz : P.cellsOf e = esz) (hz : (zeroB P e).map List.length = some esz) (h1 : Nat.blt 0 esz = true) (hby : P.bytesOf e = by_) (hag : aggB P e = some ag) (ha1 : ag = true ∨ esz = 1) (hmu : mu d = true)
    (hg2 : hget h id2 = some ⟨cs2, esz, k, e2, ag2, lv⟩) (hb : k * by_ ≤ 140737488355328 ∧ k ≤ 4611686018427387904) (hk : k ≠ 0) :
    appendPV P mu (some d) t (.t (.sl false [])) (.rf id2 k) h = some (.rf (hnext h d) k, hnew h d ⟨cs2, esz, k, e, ag, true⟩) := by
  have hpos : 0 < esz := by simp [Nat.blt] at h1; omega
  obtain ⟨z, hz1, hz2⟩ : ∃ z, zeroB P e = some z ∧ z.length = esz := by
    cases hzz : zeroB P e with
    | none => rw [hzz] at hz; cases hz
    | some z => rw [hzz] at hz; exact ⟨z, rfl, by simpa using hz⟩
  unfold appendPV
  simp only [hel, hz1, srcPV, hg2, hsz, and_self, if_true, hz2, true_and, hby]
  rw [if_pos hpos, if_neg hk, if_pos hb]
  unfold newRowPV
  simp only [hag, hsz, hmu, if_true]
  rw [if_neg]
  rintro ⟨h3, h4⟩
  rcases ha1 with h5 | h5
  · rw [h3] at h5; cases h5
  · exact h4 h5
theorem intB_q {x : Rat} {M N : Nat} (h : IntB x M) (hM : M ≤ N) (hN : Fit N) : qfits x := by
  obtain ⟨z, rfl, hz⟩ := h
  exact ((FB.int z).mono (Nat.le_trans hz hM) hN.1).q1 hN
structure MidH (h : Hp) (C W n k : Nat) (bs : List Nat) (fl : List Bool) (cc : List Rat) (rows : List (List Rat)) : Prop where
  tab : hget h (18, 0) = some ⟨[(if k = 0 then PV.t (.sl false []) else .rf (164, 0) k), .rf (41, 0) W, .rf (16, 0) n, .t (i64 (C : Nat))], 4, 1, tTab, true, true⟩
  basis : hget h (16, 0) = some ⟨bs.map (fun (b : Nat) => .t (i64 b)), 1, n, tInt, false, true⟩
  flip : hget h (31, 0) = some ⟨fl.map (fun b => .t (.bool b)), 1, n, tBl, false, true⟩
  cost : hget h (41, 0) = some ⟨ratsC cc, 6, W, tRat, true, true⟩
  row : ∀ i r, i < k → rows[i]? = some r → hget h (81, i) = some ⟨ratsC r, 6, W, tRat, true, true⟩
  cont : k ≠ 0 → hget h (164, 0) = some ⟨(List.range k).map (fun i => .rf (81, i) W), 1, k, tRats, false, true⟩
  l81 : (h 81).length = k
  l164 : k = 0 → h 164 = []
set_option maxHeartbeats 4000000 in
theorem begin_i {m : List (List Rat)} {rhs : List Rat} (b : Bool) {C c : Nat} (hC : ∀ r ∈ m, r.length = C) (hr : rhs.length = m.length) (hn1 : 1 ≤ m.length) (hn : m.length ≤ 1000000) (hCn : C ≤ 1000000) (hI : IntM m rhs c) {N : Nat} (hN : Fit N) (hNc : m.length * c ≤ N) :
    ICall Tryz.prog 136 [.t (encM b m), .t (.sl true (rhs.map encQ))] (fun _ => []) (fun v h' => v = .tup [.ad (18, 0) 1 0, .rf (31, 0) m.length] ∧ TabH h' (beginL m rhs) m.length (C + m.length + 1) ∧
      hget h' (31, 0) = some ⟨rhs.map (fun x => .t (.bool (flipB x))), 1, m.length, tBl, false, true⟩) := by
  obtain ⟨r0, m', hm⟩ : ∃ r0 m', m = r0 :: m' := by
    cases m with
    | nil => simp at hn1
    | cons r0 m' => exact ⟨r0, m', rfl⟩
  have hr0 : r0.length = C := hC r0 (by rw [hm]; simp)
  have hhd : (m.headD []).length = C := by rw [hm]; exact hr0
  have h0 : (m.map fun r => Tr.sl b (r.map encQ))[0]? = some (.sl b (r0.map encQ)) := by rw [hm]; rfl
  have hg1 : decide ((m.length : Int) > 0) = true := decide_eq_true (by omega)
  have hw1 : IntKind.i64.wrap ((C : Int) + (m.length : Int)) = ((C + m.length : Nat) : Int) := by rw [wrap_i64 (by omega) (by omega)]; rfl
  have hw2 : IntKind.i64.wrap (((C + m.length : Nat) : Int) + 1) = ((C + m.length + 1 : Nat) : Int) := by rw [wrap_i64 (by omega) (by omega)]; rfl
  obtain ⟨W, hW⟩ : ∃ W, C + m.length + 1 = W := ⟨_, rfl⟩
  have hW2 : W ≤ 2000001 := by omega
  have hWp : 1 ≤ W := by omega
  rw [hW] at hw2 ⊢
  unfold encM
  clear hm
  refine icall_mk orders Tryz.func136 rfl (by kernel_rfl) (fun d => d == 13 || d == 16 || d == 18 || d == 31 || d == 41 || d == 52 || d == 53 || d == 54 || d == 55 || d == 58 || d == 81 || d == 141 || d == 142 || d == 143 || d == 144 || d == 146 || d == 147 || d == 148 || d == 149 || d == 151 || d == 155 || d == 163 || d == 164 || d == 167 || d == 168 || d == 169 || d == 170 || d == 172 || d == 173 || d == 174 || d == 178) (by kernel_rfl) rfl (fun hs hlen => ?_)
  clear hs hlen
  repeat' (first
    | (with_reducible first | refine sA ?_ ?_ | refine sB ?_ ?_ | refine sC ?_ ?_ | refine sD ?_ ?_ | refine sE ?_ ?_ | refine sF ?_ ?_) <;> intro h
    | simp only [go_sem, *, beq_self_eq_true])
  refine hpK_if ⟨by omega, by omega⟩ ?_
  repeat' (first
    | (with_reducible first | refine sA ?_ ?_ | refine sB ?_ ?_ | refine sC ?_ ?_ | refine sD ?_ ?_ | refine sE ?_ ?_ | refine sF ?_ ?_) <;> intro h
    | simp only [go_sem, *, beq_self_eq_true, hnext_nil, hnext_new, hnext_set, hget_new0])
  refine hpK_if ⟨by omega, by omega⟩ ?_
  repeat' (first
    | (with_reducible first | refine sA ?_ ?_ | refine sB ?_ ?_ | refine sC ?_ ?_ | refine sD ?_ ?_ | refine sE ?_ ?_ | refine sF ?_ ?_) <;> intro h
    | simp only [go_sem, *, beq_self_eq_true, hnext_nil, hnext_new, hnext_set, hget_new0])
  with_reducible refine hpK_if ?_ ?_
  · exact ⟨by omega, by omega⟩
  clear hw1 hw2 hg1 h0
  repeat' (first
    | (with_reducible first | refine sA ?_ ?_ | refine sB ?_ ?_ | refine sC ?_ ?_ | refine sD ?_ ?_ | refine sE ?_ ?_ | refine sF ?_ ?_) <;> intro h
    | simp only [go_sem, *, beq_self_eq_true, hnext_nil, hnext_new, hnext_set, hget_new0])
  have w0 := whole_d 0 (by unfold inI64; omega)
  rw [rc0] at w0
  refine loop_range (List.range (W)) (fun k s' => ∃ cur : List Tr, hget s'.hp (41, 0) = some ⟨(flat cur).map .t, 6, W, tRat, true, true⟩ ∧ cur.length = W ∧ (∀ z ∈ cur, elemOK true 6 z) ∧ cur.take k = List.replicate k (encQ 0) ∧
      hget s'.hp (18, 0) = some ⟨[.t (.sl false []), .rf (41, 0) W, .rf (16, 0) m.length, .t (i64 (C : Nat))], 4, 1, tTab, true, true⟩ ∧ hget s'.hp (16, 0) = some ⟨(List.replicate m.length 0).map (fun (b : Nat) => .t (i64 b)), 1, m.length, tInt, false, true⟩ ∧
      hget s'.hp (31, 0) = some ⟨(List.replicate m.length false).map (fun b => .t (.bool b)), 1, m.length, tBl, false, true⟩ ∧ s'.hp 81 = [] ∧ s'.hp 164 = []) rfl (by rw [List.length_range]; rfl) (by rw [List.length_range]; first | assumption | omega) (by kernel_rfl) (fun _ _ _ _ hj => hj) (fun _ _ _ hj => hj) ?_ (fun k x s' hx hd hk hJ hix hfr G hG => ?_) (fun s' hJ hfr => ?_)
  · refine ⟨List.replicate W (.agg qz), ?_, by simp, fun z hz => by rw [(List.mem_replicate.1 hz).2]; exact ⟨fun _ => rfl, (fun h => nomatch h), rfl⟩, rfl, ?_, ?_, ?_, rfl, rfl⟩
    · rw [← zrow_flat]; rfl
    · rfl
    · exact Eq.trans (b := some ⟨List.map PV.t (List.map (Tr.int .i64) (List.replicate m.length 0)), 1, m.length, tInt, false, true⟩) rfl (by simp)
    · exact Eq.trans (b := some ⟨List.map PV.t (zrow [.bool false] m.length), 1, m.length, tBl, false, true⟩) rfl (by rw [zrow_one]; simp)
  · have c6 := hfr 6 (by kernel_rfl)
    have c7 := hfr 7 (by kernel_rfl)
    have c48 := hfr 48 (by kernel_rfl)
    clear hfr
    simp only [go_sem] at c6 c7 c48
    obtain ⟨cur, h41, hcl, hok, htk, h18, h16, h31, h81, h164⟩ := hJ
    rw [List.length_range] at hk
    have hxk : x = k := by rw [List.getElem?_range hk] at hx; injection hx with hx; exact hx.symm
    subst hxk
    obtain ⟨y, hy, _⟩ := get_of_lt cur x (by omega)
    have he6 : ∀ z ∈ cur, z.cells.length = 6 := fun z hz => (hok z hz).2.2
    have hspl : splice (List.map PV.t (flat cur)) (x * 6) ((ratC 0).map PV.t) = List.map PV.t (flat (cur.set x (encQ 0))) := flat_splice he6 (x := y) (y := encQ 0) hy (ratC_length _)
    have hfl : (flat cur).length = W * 6 := by rw [flat_length _ 6 he6, hcl]
    have hx6 : x * 6 + 6 ≤ W * 6 := by omega
    have hq0 : (ratC 0).length = 6 := ratC_length _
    repeat' (first
      | (with_reducible first | refine sA ?_ ?_ | refine sB ?_ ?_ | refine sC ?_ ?_ | refine sD ?_ ?_ | refine sE ?_ ?_ | refine sF ?_ ?_) <;> intro h
      | refine clK_mk (w0) rfl ?_
      | simp only [go_sem, *, beq_self_eq_true])
    refine hG _ ⟨cur.set x (encQ 0), ?_, by simp [hcl], ?_, ?_, ?_, ?_, ?_, ?_, ?_⟩
    · exact set_same h41 _
    · intro z hz
      rcases List.mem_or_eq_of_mem_set hz with hz | rfl
      · exact hok z hz
      · exact ok_encQ _
    · rw [take_set_succ _ _ _ (by omega), htk, List.replicate_succ']
    · exact set_other h18 (.inl rfl) _
    · exact set_other h16 (.inl rfl) _
    · exact set_other h31 (.inl rfl) _
    · simp only [go_sem, hset_site, h81]
    · simp only [go_sem, hset_site, h164]
  · have c0 := hfr 0 (by kernel_rfl)
    have c1 := hfr 1 (by kernel_rfl)
    have c6 := hfr 6 (by kernel_rfl)
    have c7 := hfr 7 (by kernel_rfl)
    clear hfr
    simp only [go_sem] at c0 c1 c6 c7
    obtain ⟨cur, h41, hcl, hok, htk, h18, h16, h31, h81, h164⟩ := hJ
    rw [List.length_range, List.take_of_length_le (by omega)] at htk
    have hcur : (flat cur).map PV.t = ratsC (List.replicate W 0) := by
      unfold ratsC; rw [htk, List.map_replicate]
    rw [hcur] at h41
    clear hcur hok hcl htk
    have hrows : (beginL m rhs).rows = rowsL C W m rhs 0 := by
      show rowsL _ _ m rhs 0 = _
      rw [hhd, hW]
    have hcost : (beginL m rhs).cost = costL C W (rowsL C W m rhs 0) (List.replicate W 0) := by
      show costL _ _ (rowsL _ _ m rhs 0) _ = _
      rw [hhd, hW]
    have hbas : (beginL m rhs).basis = (List.range m.length).map (C + ·) := by
      show (List.range m.length).map (_ + ·) = _
      rw [hhd]
    have hcols : (beginL m rhs).cols = C := hhd
    have hrl := rowsL_len (cols := C) (W := W) m rhs 0
    repeat' (first
      | (with_reducible first | refine sA ?_ ?_ | refine sB ?_ ?_ | refine sC ?_ ?_ | refine sD ?_ ?_ | refine sE ?_ ?_ | refine sF ?_ ?_) <;> intro h
      | simp only [go_sem, *, beq_self_eq_true])
    refine loop_range (List.range (m.length)) (fun k s' => ∃ (bs : List Nat) (fl : List Bool) (cc : List Rat), MidH s'.hp C W m.length k bs fl cc (rowsL C W m rhs 0) ∧ bs.length = m.length ∧ fl.length = m.length ∧ cc.length = W ∧ bs.take k = ((List.range m.length).map (C + ·)).take k ∧ fl.take k = (rhs.map flipB).take k ∧
        costL C W ((rowsL C W m rhs 0).drop k) cc = (beginL m rhs).cost ∧ ∀ x ∈ cc, IntB x (k * c)) rfl (by rw [List.length_range]; rfl) (by rw [List.length_range]; first | assumption | omega) (by kernel_rfl) (fun _ _ _ _ hj => hj) (fun _ _ _ hj => hj) ?_ (fun k x s' hx hd hk hJ hix hfr G hG => ?_) (fun s' hJ hfr => ?_)
    · exact ⟨_, _, _, ⟨h18, h16, h31, h41, fun i r hi => by omega, fun h => absurd rfl h, by rw [h81]; rfl, fun _ => h164⟩, by simp, by simp, by simp, rfl, rfl, by rw [hcost]; rfl, fun z hz => by rw [(List.mem_replicate.1 hz).2]; exact zeroB' _⟩
    · have c1 := hfr 1 (by kernel_rfl)
      have c6 := hfr 6 (by kernel_rfl)
      have c7 := hfr 7 (by kernel_rfl)
      have c60 := hfr 60 (by kernel_rfl)
      clear hfr
      simp only [go_sem] at c1 c6 c7 c60
      obtain ⟨bs, fl, cc, hM, hbl, hfl, hccl, hbt, hft, hct, hcB⟩ := hJ
      rw [List.length_range] at hk
      have hxk : x = k := by rw [List.getElem?_range hk] at hx; injection hx with hx; exact hx.symm
      subst hxk
      obtain ⟨r, hrx, _⟩ := get_of_lt m x hk
      obtain ⟨v, hvx, _⟩ := get_of_lt rhs x (by omega)
      have hrm := List.mem_of_getElem? hrx
      have hrC := hC r hrm
      have hmx : (m.map fun r => Tr.sl b (r.map encQ))[x]? = some (.sl b (r.map encQ)) := by rw [List.getElem?_map, hrx]; rfl
      have hvv : (rhs.map encQ)[x]? = some (encQ v) := by rw [List.getElem?_map, hvx]; rfl
      have sg := qsign_d v
      have hfb : decide (v.num.sign < 0) = flipB v := sign_neg v
      have hx1 : x + 1 ≤ m.length := by omega
      have hfs : splice (fl.map (fun b => PV.t (.bool b))) x [.t (.bool (flipB v))] = (fl.set x (flipB v)).map (fun b => PV.t (.bool b)) := by
        rw [List.map_set]; exact set_splice _ _ _ (by rw [List.length_map]; omega)
      obtain ⟨m18, m16, m31, m41, mrow, mcont, ml81, ml164⟩ := hM
      have mn := hnext_of ml81
      clear hd hx
      repeat' (first
        | (with_reducible first | refine sA ?_ ?_ | refine sB ?_ ?_ | refine sC ?_ ?_ | refine sD ?_ ?_ | refine sE ?_ ?_ | refine sF ?_ ?_) <;> intro h
        | refine clK_mk (sg) rfl ?_
        | simp only [go_sem, *, beq_self_eq_true, hnext_set])
      with_reducible refine hpK_if ?_ ?_
      · exact ⟨by omega, by omega⟩
      repeat' (first
        | (with_reducible first | refine sA ?_ ?_ | refine sB ?_ ?_ | refine sC ?_ ?_ | refine sD ?_ ?_ | refine sE ?_ ?_ | refine sF ?_ ?_) <;> intro h
        | simp only [go_sem, *, beq_self_eq_true, hnext_set, hget_new', set_len])
      have hrw : (rowsL C W m rhs 0)[x]? = some (rowL C W x r v) := by
        have h1 := rowsL_get (cols := C) (W := W) m rhs 0 x hk
        have h2 : x < (rowsL C W m rhs 0).length := by rw [hrl.1]; exact hk
        rw [List.getD_eq_getElem?_getD, List.getElem?_eq_getElem h2] at h1
        rw [List.getElem?_eq_getElem h2]
        simp only [Option.getD_some] at h1
        rw [h1, Nat.zero_add]
        congr 2
        · rw [List.getD_eq_getElem?_getD, hrx]; rfl
        · rw [List.getD_eq_getElem?_getD, hvx]; rfl
      have hdr : (rowsL C W m rhs 0).drop x = rowL C W x r v :: (rowsL C W m rhs 0).drop (x + 1) := by
        obtain ⟨_, h1, h2⟩ := get_of_lt (rowsL C W m rhs 0) x (by rw [hrl.1]; exact hk)
        rw [hrw] at h1; injection h1 with h1; rw [h1]; exact h2
      obtain ⟨R, hR⟩ : ∃ R, R = rowL C W x r v := ⟨_, rfl⟩
      have hRl : R.length = W := by rw [hR]; simp [rowL]
      have hRg : ∀ j, j < W → R[j]? = some (entry C W x r v j) := fun j hj => by rw [hR]; simp [rowL, hj]
      have hcs : ∀ j, j < W → (costStep C W cc R)[j]? = some (if counts C W j = true then cc.getD j 0 - entry C W x r v j else cc.getD j 0) := fun j hj => by
        have : R.getD j 0 = entry C W x r v j := by rw [List.getD_eq_getElem?_getD, hRg j hj]; rfl
        simp [costStep, hj, ← this]
      rw [← hR] at hdr hrw
      generalize hHA : hnew (hset s'.hp (31, 0) _) 81 _ = hA at *
      have a18 : hget hA (18, 0) = some ⟨[(if x = 0 then PV.t (.sl false []) else .rf (164, 0) x), .rf (41, 0) W, .rf (16, 0) m.length, .t (i64 (C : Nat))], 4, 1, tTab, true, true⟩ := by
        rw [← hHA]; exact hget_new_old (set_other m18 (.inl rfl) _) _
      have a16 : hget hA (16, 0) = some ⟨bs.map (fun (b : Nat) => .t (i64 b)), 1, m.length, tInt, false, true⟩ := by
        rw [← hHA]; exact hget_new_old (set_other m16 (.inl rfl) _) _
      have a31 : hget hA (31, 0) = some ⟨(fl.set x (flipB v)).map (fun b => .t (.bool b)), 1, m.length, tBl, false, true⟩ := by
        rw [← hHA]; exact hget_new_old (set_same m31 _) _
      have a41 : hget hA (41, 0) = some ⟨ratsC cc, 6, W, tRat, true, true⟩ := by
        rw [← hHA]; exact hget_new_old (set_other m41 (.inl rfl) _) _
      have arow : ∀ i r, i < x → (rowsL C W m rhs 0)[i]? = some r → hget hA (81, i) = some ⟨ratsC r, 6, W, tRat, true, true⟩ := fun i r hi hr' => by
        rw [← hHA]; exact hget_new_old (set_other (mrow i r hi hr') (.inl (by simp)) _) _
      have acont : x ≠ 0 → hget hA (164, 0) = some ⟨(List.range x).map (fun i => .rf (81, i) W), 1, x, tRats, false, true⟩ := fun hx0 => by
        rw [← hHA]; exact hget_new_old (set_other (mcont hx0) (.inl rfl) _) _
      have a81 : hget hA (81, x) = some ⟨(flat (List.replicate W (.agg qz))).map PV.t, 6, W, tRat, true, true⟩ := by
        rw [← hHA, ← zrow_flat]; exact hget_new' _ (by rw [set_len]; exact ml81)
      have al : (hA 81).length = x + 1 := by rw [← hHA, new_len_same, set_len, ml81]
      have al2 : (hA 164).length = (s'.hp 164).length := by rw [← hHA, new_len _ rfl, set_len]
      clear hHA hmx sg hfs
      refine loop_range (List.range (W)) (fun k s' => ∃ (cur : List Tr) (c2 : List Rat), hget s'.hp (81, x) = some ⟨(flat cur).map .t, 6, W, tRat, true, true⟩ ∧ cur.length = W ∧ (∀ z ∈ cur, elemOK true 6 z) ∧ cur.take k = (R.take k).map encQ ∧ hget s'.hp (41, 0) = some ⟨ratsC c2, 6, W, tRat, true, true⟩ ∧ c2.length = W ∧
          c2.take k = (costStep C W cc R).take k ∧ c2.drop k = cc.drop k ∧ Same hA s'.hp [(81, x), (41, 0)] ∧ (s'.hp 81).length = x + 1 ∧ (s'.hp 164).length = (hA 164).length) rfl (by rw [List.length_range]; rfl) (by rw [List.length_range]; first | assumption | omega) (by kernel_rfl) (fun _ _ _ _ hj => hj) (fun _ _ _ hj => hj) ?_ (fun j y u hy hyd hj hJ hjx hfr H hH => ?_) (fun u hJ hfr => ?_)
      · exact ⟨_, cc, a81, by simp, fun z hz => by rw [(List.mem_replicate.1 hz).2]; exact ⟨fun _ => rfl, (fun h => nomatch h), rfl⟩, rfl, a41, hccl, rfl, rfl, Same.refl _ _, al, rfl⟩
      · have e1 := hfr 1 (by kernel_rfl)
        have e6 := hfr 6 (by kernel_rfl)
        have e7 := hfr 7 (by kernel_rfl)
        have e9 := hfr 9 (by kernel_rfl)
        have e10 := hfr 10 (by kernel_rfl)
        have e11 := hfr 11 (by kernel_rfl)
        have e83 := hfr 83 (by kernel_rfl)
        clear hfr
        simp only [go_sem, c1, c6, c7] at e1 e6 e7 e9 e10 e11 e83
        obtain ⟨cur, c2, g81, hcl, hok, htk, g41, hc2l, hc2t, hc2d, hsm, gl, gl2⟩ := hJ
        rw [List.length_range] at hj
        have hyj : y = j := by rw [List.getElem?_range hj] at hy; injection hy with hy; exact hy.symm
        subst hyj
        clear hy hyd
        have g18 := hsm _ _ (by simp) a18
        have g31 := hsm _ _ (by simp) a31
        have n18 := fun o => hget_new_old g18 (s := 13) o
        have n31 := fun o => hget_new_old g31 (s := 13) o
        have n41 := fun o => hget_new_old g41 (s := 13) o
        have n81 := fun o => hget_new_old g81 (s := 13) o
        have p18 := fun o o' => set_other (id := (81, x)) (n18 o) (.inl (by simp)) o'
        have p41 := fun o o' => set_other (id := (81, x)) (n41 o) (.inl (by simp)) o'
        have p13 := fun o o' => set_other (id := (81, x)) (hget_new (h := u.hp) 13 o) (.inl (ne_hnext g81)) o'
        obtain ⟨z, hz, _⟩ := get_of_lt cur y (by omega)
        have he6 : ∀ z ∈ cur, z.cells.length = 6 := fun z hz => (hok z hz).2.2
        have hfl6 : (flat cur).length = W * 6 := by rw [flat_length _ 6 he6, hcl]
        have hspl : ∀ q : Rat, splice (List.map PV.t (flat cur)) (y * 6) ((ratC q).map PV.t) = List.map PV.t (flat (cur.set y (encQ q))) := fun q => flat_splice he6 (x := z) (y := encQ q) hz (ratC_length _)
        have hq6 : ∀ q : Rat, (ratC q).length = 6 := fun q => ratC_length _
        have hdp6 : ∀ q : Rat, List.drop 6 (List.map PV.t (ratC q)) = [] := fun q => List.drop_of_length_le (by rw [List.length_map, ratC_length]; exact Nat.le_refl _)
        have hy6 : y * 6 + 6 ≤ W * 6 := by omega
        have hccB : qfits (cc.getD y 0) := intB_q (hcB _ (getD_mem (by omega))) (Nat.le_trans (Nat.mul_le_mul_right c (Nat.le_of_lt hk)) hNc) hN
        have hcN : c ≤ N := Nat.le_trans (Nat.le_mul_of_pos_left c (by omega)) hNc
        have hcq : cc[y]? = some (cc.getD y 0) := by rw [List.getD_eq_getElem?_getD, List.getElem?_eq_getElem (by omega)]; rfl
        have hc2y : c2[y]? = some (cc.getD y 0) := by
          have := congrArg (fun l => l[0]?) hc2d
          simp only [List.getElem?_drop, Nat.add_zero] at this
          rw [this, hcq]
        have hl2 := ratsC_get hc2y
        have hst2 := fun q => ratsC_set (l := c2) (k := y) (q := q) (by omega)
        have hc2c := ratsC_len c2
        rw [hc2l] at hc2c
        have hfg : (fl.set x (flipB v))[x]? = some (flipB v) := List.getElem?_set_self (by omega)
        have hfg2 : ((fl.set x (flipB v)).map (fun b => PV.t (.bool b)))[x]? = some (.t (.bool (flipB v))) := by rw [List.getElem?_map, hfg]; rfl
        have hwr : IntKind.i64.wrap ((W : Int) - 1) = ((W - 1 : Nat) : Int) := by rw [wrap_i64 (by omega) (by omega)]; omega
        have hwr2 : IntKind.i64.wrap ((C : Int) + (x : Int)) = ((C + x : Nat) : Int) := by rw [wrap_i64 (by omega) (by omega)]; rfl
        have hRy := hRg y hj
        have hCy := hcs y hj
        have htk2 : ∀ q, entry C W x r v y = q → (cur.set y (encQ q)).take (y + 1) = (R.take (y + 1)).map encQ := fun q hq => by
          rw [take_set_succ _ _ _ (by omega), htk, List.take_add_one, List.map_append, hRy, hq]; rfl
        have hok2 : ∀ q : Rat, ∀ w ∈ cur.set y (encQ q), elemOK true 6 w := fun q w hw => by
          rcases List.mem_or_eq_of_mem_set hw with hw | rfl
          · exact hok w hw
          · exact ok_encQ _
        have s41 : (((81, x) : Id) == ((41, 0) : Id)) = false := by simp
        have s14 : (((41, 0) : Id) == ((81, x) : Id)) = false := by simp
        have hccN := getD_mem (l := cc) (k := y) (by omega)
        rcases Nat.lt_or_ge y C with hyC | hyC
        · have k1 : decide ((y : Int) < (C : Int)) = true := decide_eq_true (by omega)
          have k3 : ((y : Int) == ((C + x : Nat) : Int)) = false := by rw [beq_eq_false_iff_ne]; omega
          obtain ⟨a, ha, _⟩ := get_of_lt r y (by omega)
          have haL : (r.map encQ)[y]? = some (encQ a) := by rw [List.getElem?_map, ha]; rfl
          have haD : r.getD y 0 = a := by rw [List.getD_eq_getElem?_getD, ha]; rfl
          have haB := hI.ms r hrm a (List.mem_of_getElem? ha)
          have hcnt : counts C W y = true := by simp [counts, hyC]
          have wn := qneg_d a
          cases hfv : flipB v with
          | false =>
            rw [hfv] at hfg2
            have hent : entry C W x r v y = a := by
              unfold entry; rw [if_neg (by omega), if_pos hyC, haD, hfv]; rfl
            have heB : qfits (a) := intB_q (M := c) (by exact haB) hcN hN
            have w2 := qsub_d (cc.getD y 0) (a) hccB heB
            rw [hent] at hCy
            rw [if_pos hcnt] at hCy
            have htk3 := htk2 _ hent
            have hok3 := hok2 (a)
            generalize cc.getD y 0 = q0 at *
            repeat' (first
              | (with_reducible first | refine sA ?_ ?_ | refine sB ?_ ?_ | refine sC ?_ ?_ | refine sD ?_ ?_ | refine sE ?_ ?_ | refine sF ?_ ?_) <;> intro h
              | refine clK_mk (w0) rfl ?_
              | refine clK_mk (w2) rfl ?_
              | simp only [go_sem, *, beq_self_eq_true, hnext_fstS, List.append_nil])
            refine hH _ ⟨cur.set y (encQ (a)), c2.set y (q0 - a), ?_, by simp [hcl], hok3, htk3, ?_, by simp [hc2l], ?_, ?_, ?_, ?_, ?_⟩
            · exact set_other (set_same (n81 _) _) (.inl s41) _
            · exact set_same (set_other (n41 _) (.inl s14) _) _
            · rw [take_set_succ _ _ _ (by omega), hc2t, List.take_add_one, hCy]; rfl
            · rw [List.drop_set_of_lt (by omega)]
              have := congrArg List.tail hc2d; simpa using this
            · exact (((hsm.trans (Same.new _ 13 _)).trans (Same.set _ (81, x) _)).trans (Same.set _ (41, 0) _)).mono (by simp)
            · simp only [go_sem, set_len, new_len, gl]
            · simp only [go_sem, set_len, new_len, gl2]
          | true =>
            rw [hfv] at hfg2
            have hent : entry C W x r v y = -a := by
              unfold entry; rw [if_neg (by omega), if_pos hyC, haD, hfv]; rfl
            have heB : qfits (-a) := intB_q (M := c) (by exact haB.neg) hcN hN
            have w2 := qsub_d (cc.getD y 0) (-a) hccB heB
            rw [hent] at hCy
            rw [if_pos hcnt] at hCy
            have htk3 := htk2 _ hent
            have hok3 := hok2 (-a)
            generalize cc.getD y 0 = q0 at *
            repeat' (first
              | (with_reducible first | refine sA ?_ ?_ | refine sB ?_ ?_ | refine sC ?_ ?_ | refine sD ?_ ?_ | refine sE ?_ ?_ | refine sF ?_ ?_) <;> intro h
              | refine clK_mk (w0) rfl ?_
              | refine clK_mk (wn) rfl ?_
              | refine clK_mk (w2) rfl ?_
              | simp only [go_sem, *, beq_self_eq_true, hnext_fstS, List.append_nil])
            refine hH _ ⟨cur.set y (encQ (-a)), c2.set y (q0 - -a), ?_, by simp [hcl], hok3, htk3, ?_, by simp [hc2l], ?_, ?_, ?_, ?_, ?_⟩
            · exact set_other (set_same (n81 _) _) (.inl s41) _
            · exact set_same (set_other (n41 _) (.inl s14) _) _
            · rw [take_set_succ _ _ _ (by omega), hc2t, List.take_add_one, hCy]; rfl
            · rw [List.drop_set_of_lt (by omega)]
              have := congrArg List.tail hc2d; simpa using this
            · exact (((hsm.trans (Same.new _ 13 _)).trans (Same.set _ (81, x) _)).trans (Same.set _ (41, 0) _)).mono (by simp)
            · simp only [go_sem, set_len, new_len, gl]
            · simp only [go_sem, set_len, new_len, gl2]
        · have k1 : decide ((y : Int) < (C : Int)) = false := decide_eq_false (by omega)
          by_cases hyW : y = W - 1
          · have k2 : ((y : Int) == ((W - 1 : Nat) : Int)) = true := by rw [beq_iff_eq, hyW]
            have k3 : ((y : Int) == ((C + x : Nat) : Int)) = false := by rw [beq_eq_false_iff_ne]; omega
            have hvB := hI.bs v (List.mem_of_getElem? hvx)
            have hcnt : counts C W y = true := by simp [counts, ← hyW]
            have wn := qneg_d v
            have k4 : y ≠ C + x := by omega
            cases hfv : flipB v with
            | false =>
              rw [hfv] at hfg2
              have hent : entry C W x r v y = v := by
                unfold entry; rw [if_neg k4, if_neg (by omega), if_pos hyW, hfv]; rfl
              have heB : qfits (v) := intB_q (M := c) (by exact hvB) hcN hN
              have w2 := qsub_d (cc.getD y 0) (v) hccB heB
              rw [hent] at hCy
              rw [if_pos hcnt] at hCy
              have htk3 := htk2 _ hent
              clear hyW
              have hok3 := hok2 (v)
              generalize cc.getD y 0 = q0 at *
              repeat' (first
                | (with_reducible first | refine sA ?_ ?_ | refine sB ?_ ?_ | refine sC ?_ ?_ | refine sD ?_ ?_ | refine sE ?_ ?_ | refine sF ?_ ?_) <;> intro h
                | refine clK_mk (w0) rfl ?_
                | refine clK_mk (w2) rfl ?_
                | simp only [go_sem, *, beq_self_eq_true, hnext_fstS, List.append_nil])
              refine hH _ ⟨cur.set y (encQ (v)), c2.set y (q0 - v), ?_, by simp [hcl], hok3, htk3, ?_, by simp [hc2l], ?_, ?_, ?_, ?_, ?_⟩
              · exact set_other (set_same (n81 _) _) (.inl s41) _
              · exact set_same (set_other (n41 _) (.inl s14) _) _
              · rw [take_set_succ _ _ _ (by omega), hc2t, List.take_add_one, hCy]; rfl
              · rw [List.drop_set_of_lt (by omega)]
                have := congrArg List.tail hc2d; simpa using this
              · exact (((hsm.trans (Same.new _ 13 _)).trans (Same.set _ (81, x) _)).trans (Same.set _ (41, 0) _)).mono (by simp)
              · simp only [go_sem, set_len, new_len, gl]
              · simp only [go_sem, set_len, new_len, gl2]
            | true =>
              rw [hfv] at hfg2
              have hent : entry C W x r v y = -v := by
                unfold entry; rw [if_neg k4, if_neg (by omega), if_pos hyW, hfv]; rfl
              have heB : qfits (-v) := intB_q (M := c) (by exact hvB.neg) hcN hN
              have w2 := qsub_d (cc.getD y 0) (-v) hccB heB
              rw [hent] at hCy
              rw [if_pos hcnt] at hCy
              have htk3 := htk2 _ hent
              clear hyW
              have hok3 := hok2 (-v)
              generalize cc.getD y 0 = q0 at *
              repeat' (first
                | (with_reducible first | refine sA ?_ ?_ | refine sB ?_ ?_ | refine sC ?_ ?_ | refine sD ?_ ?_ | refine sE ?_ ?_ | refine sF ?_ ?_) <;> intro h
                | refine clK_mk (w0) rfl ?_
                | refine clK_mk (wn) rfl ?_
                | refine clK_mk (w2) rfl ?_
                | simp only [go_sem, *, beq_self_eq_true, hnext_fstS, List.append_nil])
              refine hH _ ⟨cur.set y (encQ (-v)), c2.set y (q0 - -v), ?_, by simp [hcl], hok3, htk3, ?_, by simp [hc2l], ?_, ?_, ?_, ?_, ?_⟩
              · exact set_other (set_same (n81 _) _) (.inl s41) _
              · exact set_same (set_other (n41 _) (.inl s14) _) _
              · rw [take_set_succ _ _ _ (by omega), hc2t, List.take_add_one, hCy]; rfl
              · rw [List.drop_set_of_lt (by omega)]
                have := congrArg List.tail hc2d; simpa using this
              · exact (((hsm.trans (Same.new _ 13 _)).trans (Same.set _ (81, x) _)).trans (Same.set _ (41, 0) _)).mono (by simp)
              · simp only [go_sem, set_len, new_len, gl]
              · simp only [go_sem, set_len, new_len, gl2]
          · have k2 : ((y : Int) == ((W - 1 : Nat) : Int)) = false := by rw [beq_eq_false_iff_ne]; omega
            have hcnt : ¬ counts C W y = true := by simp [counts]; omega
            have wn := qneg_d 0
            have w1 := whole_d 1 (by unfold inI64; omega)
            rw [rc1] at w1
            by_cases hyx : y = C + x
            · have k3 : ((y : Int) == ((C + x : Nat) : Int)) = true := by rw [beq_iff_eq, hyx]
              cases hfv : flipB v with
              | false =>
                rw [hfv] at hfg2
                have hent : entry C W x r v y = 1 := by
                  unfold entry; rw [if_pos hyx]
                rw [hent] at hCy
                rw [if_neg hcnt] at hCy
                have htk3 := htk2 _ hent
                clear hyx
                have hok3 := hok2 (1)
                generalize cc.getD y 0 = q0 at *
                repeat' (first
                  | (with_reducible first | refine sA ?_ ?_ | refine sB ?_ ?_ | refine sC ?_ ?_ | refine sD ?_ ?_ | refine sE ?_ ?_ | refine sF ?_ ?_) <;> intro h
                  | refine clK_mk (w0) rfl ?_
                  | refine clK_mk (w1) rfl ?_
                  | simp only [go_sem, *, beq_self_eq_true, hnext_fstS, List.append_nil])
                refine hH _ ⟨cur.set y (encQ (1)), c2, ?_, by simp [hcl], hok3, htk3, ?_, hc2l, ?_, ?_, ?_, ?_, ?_⟩
                · exact set_same (n81 _) _
                · exact set_other (n41 _) (.inl s14) _
                · rw [List.take_add_one, List.take_add_one, hc2t, hc2y, hCy]
                · have := congrArg List.tail hc2d; simpa using this
                · exact ((hsm.trans (Same.new _ 13 _)).trans (Same.set _ (81, x) _)).mono (by simp)
                · simp only [go_sem, set_len, new_len, gl]
                · simp only [go_sem, set_len, new_len, gl2]
              | true =>
                rw [hfv] at hfg2
                have hent : entry C W x r v y = 1 := by
                  unfold entry; rw [if_pos hyx]
                rw [hent] at hCy
                rw [if_neg hcnt] at hCy
                have htk3 := htk2 _ hent
                clear hyx
                have hok3 := hok2 (1)
                generalize cc.getD y 0 = q0 at *
                repeat' (first
                  | (with_reducible first | refine sA ?_ ?_ | refine sB ?_ ?_ | refine sC ?_ ?_ | refine sD ?_ ?_ | refine sE ?_ ?_ | refine sF ?_ ?_) <;> intro h
                  | refine clK_mk (w0) rfl ?_
                  | refine clK_mk (wn) rfl ?_
                  | refine clK_mk (w1) rfl ?_
                  | simp only [go_sem, *, beq_self_eq_true, hnext_fstS, List.append_nil])
                refine hH _ ⟨cur.set y (encQ (1)), c2, ?_, by simp [hcl], hok3, htk3, ?_, hc2l, ?_, ?_, ?_, ?_, ?_⟩
                · exact set_same (n81 _) _
                · exact set_other (n41 _) (.inl s14) _
                · rw [List.take_add_one, List.take_add_one, hc2t, hc2y, hCy]
                · have := congrArg List.tail hc2d; simpa using this
                · exact ((hsm.trans (Same.new _ 13 _)).trans (Same.set _ (81, x) _)).mono (by simp)
                · simp only [go_sem, set_len, new_len, gl]
                · simp only [go_sem, set_len, new_len, gl2]
            · have k3 : ((y : Int) == ((C + x : Nat) : Int)) = false := by rw [beq_eq_false_iff_ne]; omega
              cases hfv : flipB v with
              | false =>
                rw [hfv] at hfg2
                have hent : entry C W x r v y = 0 := by
                  unfold entry; rw [if_neg hyx, if_neg (by omega), if_neg hyW, hfv]; rfl
                rw [hent] at hCy
                rw [if_neg hcnt] at hCy
                have htk3 := htk2 _ hent
                have hok3 := hok2 (0)
                generalize cc.getD y 0 = q0 at *
                repeat' (first
                  | (with_reducible first | refine sA ?_ ?_ | refine sB ?_ ?_ | refine sC ?_ ?_ | refine sD ?_ ?_ | refine sE ?_ ?_ | refine sF ?_ ?_) <;> intro h
                  | refine clK_mk (w0) rfl ?_
                  | simp only [go_sem, *, beq_self_eq_true, hnext_fstS, List.append_nil])
                refine hH _ ⟨cur.set y (encQ (0)), c2, ?_, by simp [hcl], hok3, htk3, ?_, hc2l, ?_, ?_, ?_, ?_, ?_⟩
                · exact set_same (n81 _) _
                · exact set_other (n41 _) (.inl s14) _
                · rw [List.take_add_one, List.take_add_one, hc2t, hc2y, hCy]
                · have := congrArg List.tail hc2d; simpa using this
                · exact ((hsm.trans (Same.new _ 13 _)).trans (Same.set _ (81, x) _)).mono (by simp)
                · simp only [go_sem, set_len, new_len, gl]
                · simp only [go_sem, set_len, new_len, gl2]
              | true =>
                rw [hfv] at hfg2
                have e0 : (-0 : Rat) = 0 := by decide
                rw [e0] at wn
                have hent : entry C W x r v y = 0 := by
                  unfold entry; rw [if_neg hyx, if_neg (by omega), if_neg hyW, hfv]; rfl
                rw [hent] at hCy
                rw [if_neg hcnt] at hCy
                have htk3 := htk2 _ hent
                have hok3 := hok2 (0)
                generalize cc.getD y 0 = q0 at *
                repeat' (first
                  | (with_reducible first | refine sA ?_ ?_ | refine sB ?_ ?_ | refine sC ?_ ?_ | refine sD ?_ ?_ | refine sE ?_ ?_ | refine sF ?_ ?_) <;> intro h
                  | refine clK_mk (w0) rfl ?_
                  | refine clK_mk (wn) rfl ?_
                  | simp only [go_sem, *, beq_self_eq_true, hnext_fstS, List.append_nil])
                refine hH _ ⟨cur.set y (encQ (0)), c2, ?_, by simp [hcl], hok3, htk3, ?_, hc2l, ?_, ?_, ?_, ?_, ?_⟩
                · exact set_same (n81 _) _
                · exact set_other (n41 _) (.inl s14) _
                · rw [List.take_add_one, List.take_add_one, hc2t, hc2y, hCy]
                · have := congrArg List.tail hc2d; simpa using this
                · exact ((hsm.trans (Same.new _ 13 _)).trans (Same.set _ (81, x) _)).mono (by simp)
                · simp only [go_sem, set_len, new_len, gl]
                · simp only [go_sem, set_len, new_len, gl2]
      · have e6 := hfr 6 (by kernel_rfl)
        have e9 := hfr 9 (by kernel_rfl)
        have e11 := hfr 11 (by kernel_rfl)
        clear hfr
        simp only [go_sem, c6] at e6 e9 e11
        obtain ⟨cur, c2, g81, hcl, hok, htk, g41, hc2l, hc2t, hc2d, hsm, gl, gl2⟩ := hJ
        have hstl : (costStep C W cc R).length = W := by simp [costStep]
        rw [List.length_range, List.take_of_length_le (by omega), List.take_of_length_le (by omega)] at htk hc2t
        subst hc2t
        have g81 : hget u.hp (81, x) = some ⟨ratsC R, 6, W, tRat, true, true⟩ := by rw [g81, htk]; rfl
        have g18 := hsm _ _ (by simp) a18
        have g16 := hsm _ _ (by simp) a16
        have g31 := hsm _ _ (by simp) a31
        have grow : ∀ i r, i < x → (rowsL C W m rhs 0)[i]? = some r → hget u.hp (81, i) = some ⟨ratsC r, 6, W, tRat, true, true⟩ := fun i r hi hr' => hsm _ _ (by simp; omega) (arow i r hi hr')
        have gcont : x ≠ 0 → hget u.hp (164, 0) = some ⟨(List.range x).map (fun i => .rf (81, i) W), 1, x, tRats, false, true⟩ := fun hx0 => hsm _ _ (by simp) (acont hx0)
        have n18 := fun o => hget_new_old g18 (s := 163) o
        have n16 := fun o => hget_new_old g16 (s := 163) o
        have hwr2 : IntKind.i64.wrap ((C : Int) + (x : Int)) = ((C + x : Nat) : Int) := by rw [wrap_i64 (by omega) (by omega)]; rfl
        clear hc2d hok hcl htk m18 m16 m31 m41 mrow mcont a18 a16 a31 a41 arow acont a81 hsm hRg hcs
        have e1 : (bs.set x (C + x)).take (x + 1) = ((List.range m.length).map (C + ·)).take (x + 1) := by
          rw [take_set_succ _ _ _ (by omega), hbt, List.take_add_one, List.getElem?_map, List.getElem?_range (by omega)]; rfl
        have e2 : (fl.set x (flipB v)).take (x + 1) = (rhs.map flipB).take (x + 1) := by
          rw [take_set_succ _ _ _ (by omega), hft, List.take_add_one, List.getElem?_map, hvx]; rfl
        have e3 : costL C W ((rowsL C W m rhs 0).drop (x + 1)) (costStep C W cc R) = (beginL m rhs).cost := by
          rw [← hct, hdr]; rfl
        have e4 : ∀ z ∈ costStep C W cc R, IntB z ((x + 1) * c) := fun z hz => by
          have hRB : ∀ w ∈ R, IntB w c := fun w hw => by
            rw [hR] at hw
            simp only [rowL, List.mem_map, List.mem_range] at hw
            obtain ⟨j, _, rfl⟩ := hw
            have h1 : m.getD x [] = r := by rw [List.getD_eq_getElem?_getD, hrx]; rfl
            have h2 : rhs.getD x 0 = v := by rw [List.getD_eq_getElem?_getD, hvx]; rfl
            have := entry_B hI C W x x j
            rw [h1, h2] at this; exact this
          simp only [costStep, List.mem_map, List.mem_range] at hz
          obtain ⟨j, _, rfl⟩ := hz
          rw [Nat.succ_mul]
          split
          · exact (getD_B hcB j).sub (getD_B hRB j)
          · exact (getD_B hcB j).mono (by omega)
        have e5 : splice (bs.map (fun (b : Nat) => PV.t (i64 b))) x [.t (.int .i64 ((C + x : Nat) : Int))] = (bs.set x (C + x)).map (fun (b : Nat) => PV.t (i64 b)) := by
          rw [List.map_set]; exact set_splice _ _ _ (by rw [List.length_map]; omega)
        have hbx : x + 1 ≤ bs.length := by omega
        have erow : ∀ i r, i < x + 1 → (rowsL C W m rhs 0)[i]? = some r → hget u.hp (81, i) = some ⟨ratsC r, 6, W, tRat, true, true⟩ := fun i r' hi hr' => by
          by_cases hix : i = x
          · subst hix; rw [hrw] at hr'; injection hr' with hr'; subst hr'; exact g81
          · exact grow i r' (by omega) hr'
        rcases Nat.eq_zero_or_pos x with hx0 | hx0
        · subst hx0
          have z164 : u.hp 164 = [] := by
            have := ml164 rfl
            rw [this] at al2
            exact List.eq_nil_of_length_eq_zero (by rw [gl2, al2]; rfl)
          repeat' (first
            | (with_reducible first | refine sA ?_ ?_ | refine sB ?_ ?_ | refine sC ?_ ?_ | refine sD ?_ ?_ | refine sE ?_ ?_ | refine sF ?_ ?_) <;> intro h
            | simp only [go_sem, *, beq_self_eq_true, hnext_fstS, hnext_new])
          rw [append_nR (e := tRats) (e2 := tRats) (esz := 1) (by_ := 24) (ag := false) (by kernel_rfl) (by kernel_rfl) (by kernel_rfl) rfl (by kernel_rfl) (by kernel_rfl) (.inr rfl) rfl (hget_new _ _) (by omega) (by omega)]
          have hn164 : hnext (hnew u.hp 163 ⟨[.rf (81, 0) W], 1, 1, tRats, false, true⟩) 164 = (164, 0) := by rw [hnext_new _ rfl]; exact hnext_of (by rw [z164]; rfl)
          repeat' (first
            | (with_reducible first | refine sA ?_ ?_ | refine sB ?_ ?_ | refine sC ?_ ?_ | refine sD ?_ ?_ | refine sE ?_ ?_ | refine sF ?_ ?_) <;> intro h
            | simp only [go_sem, *, beq_self_eq_true, hnext_fstS, hnext_new])
          refine hG _ ⟨bs.set 0 (C + 0), fl.set 0 (flipB v), costStep C W cc R, ⟨?_, ?_, ?_, ?_, ?_, ?_, ?_, ?_⟩, by simp [hbl], by simp [hfl], hstl, e1, e2, e3, e4⟩
          · rw [if_neg (by omega)]; exact set_other (set_same (hget_new_old (n18 _) _) _) (.inl rfl) _
          · exact set_same (set_other (hget_new_old (n16 _) _) (.inl rfl) _) _
          · exact set_other (set_other (hget_new_old (hget_new_old g31 _) _) (.inl rfl) _) (.inl rfl) _
          · exact set_other (set_other (hget_new_old (hget_new_old g41 _) _) (.inl rfl) _) (.inl rfl) _
          · intro i r' hi hr'
            exact set_other (set_other (hget_new_old (hget_new_old (erow i r' hi hr') _) _) (.inl (by simp)) _) (.inl (by simp)) _
          · intro _
            refine set_other (set_other ?_ (.inl rfl) _) (.inl rfl) _
            rw [← hn164]; exact hget_new _ _
          · simp only [go_sem, set_len, new_len, gl]
          · intro h; omega
        · have hx0' : x ≠ 0 := by omega
          have gc := gcont hx0'
          have nc := fun o => hget_new_old gc (s := 163) o
          rw [if_neg hx0'] at g18
          repeat' (first
            | (with_reducible first | refine sA ?_ ?_ | refine sB ?_ ?_ | refine sC ?_ ?_ | refine sD ?_ ?_ | refine sE ?_ ?_ | refine sF ?_ ?_) <;> intro h
            | simp only [go_sem, *, beq_self_eq_true, hnext_fstS, hnext_new])
          rw [append_rR (e := tRats) (e2 := tRats) (esz := 1) (by_ := 24) (by kernel_rfl) (by kernel_rfl) (by kernel_rfl) rfl (by kernel_rfl) (nc _) (hget_new _ _) (by omega) (by omega)]
          repeat' (first
            | (with_reducible first | refine sA ?_ ?_ | refine sB ?_ ?_ | refine sC ?_ ?_ | refine sD ?_ ?_ | refine sE ?_ ?_ | refine sF ?_ ?_) <;> intro h
            | simp only [go_sem, *, beq_self_eq_true, hnext_fstS, hnext_new])
          refine hG _ ⟨bs.set x (C + x), fl.set x (flipB v), costStep C W cc R, ⟨?_, ?_, ?_, ?_, ?_, ?_, ?_, ?_⟩, by simp [hbl], by simp [hfl], hstl, e1, e2, e3, e4⟩
          · rw [if_neg (by omega)]; exact set_other (set_same (set_other (n18 _) (.inl rfl) _) _) (.inl rfl) _
          · exact set_same (set_other (set_other (n16 _) (.inl rfl) _) (.inl rfl) _) _
          · exact set_other (set_other (set_other (hget_new_old g31 _) (.inl rfl) _) (.inl rfl) _) (.inl rfl) _
          · exact set_other (set_other (set_other (hget_new_old g41 _) (.inl rfl) _) (.inl rfl) _) (.inl rfl) _
          · intro i r' hi hr'
            exact set_other (set_other (set_other (hget_new_old (erow i r' hi hr') _) (.inl (by simp)) _) (.inl (by simp)) _) (.inl (by simp)) _
          · intro _
            rw [List.range_succ, List.map_append]
            exact set_other (set_other (set_same (nc _) _) (.inl rfl) _) (.inl rfl) _
          · simp only [go_sem, set_len, new_len, gl]
          · intro h; omega
    · have e6 := hfr 6 (by kernel_rfl)
      have e7 := hfr 7 (by kernel_rfl)
      clear hfr
      simp only [go_sem, c6, c7] at e6 e7
      obtain ⟨bs, fl, cc, hM, hbl, hfl, hccl, hbt, hft, hct, _⟩ := hJ
      rw [List.length_range] at hM hbt hft hct
      rw [List.take_of_length_le (by omega), List.take_of_length_le (by simp)] at hbt
      rw [List.take_of_length_le (by omega), List.take_of_length_le (by simp; omega)] at hft
      rw [List.drop_of_length_le (by rw [hrl.1]; exact Nat.le_refl _), costL] at hct
      obtain ⟨m18, m16, m31, m41, mrow, mcont, ml81, ml164⟩ := hM
      rw [if_neg (by omega)] at m18
      rw [hbt, ← hbas] at m16
      rw [hct] at m41
      rw [hft, List.map_map] at m31
      have hfin : TabH s'.hp (beginL m rhs) m.length W := by
        refine ⟨by rw [hcols]; exact m18, m41, m16, mcont (by omega), fun i r hir => ?_⟩
        rw [hrows] at hir
        have := (List.getElem?_eq_some_iff.1 hir).1
        rw [hrl.1] at this
        exact mrow i r this hir
      repeat' (first
        | (with_reducible first | refine sA ?_ ?_ | refine sB ?_ ?_ | refine sC ?_ ?_ | refine sD ?_ ?_ | refine sE ?_ ?_ | refine sF ?_ ?_) <;> intro h
        | simp only [go_sem, *])
      exact ⟨rfl, rfl⟩
end YtihgdplbehempaaGreat
end Go.Vm
end
section
set_option linter.unusedSimpArgs false
set_option maxRecDepth 10000
namespace Go.Vm
open Go Go.Proofs Go.Whole Go.Simplex
namespace YtihgdplbehempaaGreat
open Go.Proofs.Tryz
def encAns : List Rat ⊕ List Rat → Tr
  | .inl y => .tup [.sl true (y.map encQ), .sl false [], .bool true]
  | .inr u => .tup [.sl false [], .sl true (u.map encQ), .bool false]
theorem runL_good {m : List (List Rat)} {rhs : List Rat} : ∀ (k : Nat) (T T' : Tab), GoodX m rhs T → runL (k + 1) T = some T' → GoodX m rhs T' ∧ enterL T' = none
  | 0, T, T', hG, h => by
    cases he : enterL T with
    | none => rw [runL_none h he]; exact ⟨hG, he⟩
    | some q =>
      obtain ⟨p, x, _, _, _, _, hs, _⟩ := hG.next he
      have := runL_some h he hs
      simp [runL] at this
  | k + 1, T, T', hG, h => by
    cases he : enterL T with
    | none => rw [runL_none h he]; exact ⟨hG, he⟩
    | some q =>
      obtain ⟨p, x, _, _, _, _, hs, hG'⟩ := hG.next he
      exact runL_good k _ T' hG' (runL_some h he hs)
theorem bigN_ge {n c : Nat} (hn : 1 ≤ n) (hc : 1 ≤ c) : n * c ≤ bigN n c := by
  refine Nat.le_trans ?_ (big1 n c)
  obtain ⟨k, rfl⟩ : ∃ k, n = k + 1 := ⟨n - 1, by omega⟩
  rw [Nat.pow_succ]
  refine Nat.le_mul_of_pos_left _ (Nat.pow_pos (Nat.mul_pos (by omega) (by omega)))
set_option maxHeartbeats 4000000 in
theorem nonneg_d {m : List (List Rat)} {rhs : List Rat} (b : Bool) {C c : Nat} (hC : ∀ r ∈ m, r.length = C) (hr : rhs.length = m.length) (hn1 : 1 ≤ m.length) (hn : m.length ≤ 1000000) (hCn : C ≤ 1000000) (hI : IntM m rhs c) (hN : Fit (bigN m.length c)) :
    ∃ ans, RightA m rhs ans ∧ AnsB ans (bigN m.length c) ∧ (m.length ≤ 5 → AnsB ans (840 * c ^ 5)) ∧ DCall Tryz.prog 66 [encM b m, .sl true (rhs.map encQ)] (encAns ans) := by
  obtain ⟨k0, TE, hrun⟩ := (begin_good (m := m) (rhs := rhs)).ends
  obtain ⟨hGE, hEE⟩ := runL_good k0 _ TE begin_good hrun
  obtain ⟨a1, a2, a3⟩ := hGE.answer hI hEE
  refine ⟨_, a1, a2, a3, ?_⟩
  clear a1 a2 a3
  have hhd : (m.headD []).length = C := by
    cases m with
    | nil => simp at hn1
    | cons r m' => exact hC r (by simp)
  have hb := begin_i b hC hr hn1 hn hCn hI hN (bigN_ge hn1 hI.one)
  obtain ⟨W, hW⟩ : ∃ W, C + m.length + 1 = W := ⟨_, rfl⟩
  rw [hW] at hb
  refine dcall_mk orders Tryz.func66 rfl (by kernel_rfl) (fun d => d == 17 || d == 20 || d == 24 || d == 30 || d == 32 || d == 52 || d == 58 || d == 61 || d == 79 || d == 91 || d == 96 || d == 102 || d == 104 || d == 105 || d == 106 || d == 107 || d == 108 || d == 109 || d == 110 || d == 114 || d == 118 || d == 123 || d == 125 || d == 127 || d == 130) (by kernel_rfl) rfl (fun hs => ?_)
  clear hs
  repeat' (first
    | (with_reducible first | refine sA ?_ ?_ | refine sB ?_ ?_ | refine sC ?_ ?_ | refine sD ?_ ?_ | refine sE ?_ ?_ | refine sF ?_ ?_) <;> intro h
    | simp only [go_sem, *])
  refine clK_ic hb (fun v h' hQ => ?_)
  obtain ⟨rfl, hT, hfl⟩ := hQ
  repeat' (first
    | (with_reducible first | refine sA ?_ ?_ | refine sB ?_ ?_ | refine sC ?_ ?_ | refine sD ?_ ?_ | refine sE ?_ ?_ | refine sF ?_ ?_) <;> intro h
    | simp only [go_sem, *])
  refine loop_mk (fun k s' => ∃ T, TabH s'.hp T m.length W ∧ GoodX m rhs T ∧ runL (k + 1) T = some TE ∧ hget s'.hp (31, 0) = some ⟨rhs.map (fun x => .t (.bool (flipB x))), 1, m.length, tBl, false, true⟩) k0 ⟨_, hT, begin_good, hrun, hfl⟩ ?_
  rintro k s' ⟨T, hT, hG0, hr0, hfl⟩ hfr G hG
  have c0 := hfr 0 (by kernel_rfl)
  have c1 := hfr 1 (by kernel_rfl)
  have c7 := hfr 7 (by kernel_rfl)
  have c8 := hfr 8 (by kernel_rfl)
  clear hfr
  simp only [go_sem] at c0 c1 c7 c8
  have hW2 : (m.headD []).length + m.length + 1 = W := by rw [hhd]; exact hW
  have hokT := hG0.ok
  rw [hW2] at hokT
  have hcT : T.cols = C := by rw [hG0.cols, hhd]
  have hE := enter_i hT hokT (by omega)
  cases he : enterL T with
  | some q =>
    obtain ⟨p, x, hl, hp, hq, hpos, hst, hG1⟩ := hG0.next he
    have hr1 := runL_some hr0 he hst
    obtain ⟨k1, rfl⟩ : ∃ k1, k = k1 + 1 := by
      cases k with
      | zero => simp [runL] at hr1
      | succ k1 => exact ⟨k1, rfl⟩
    have hEi : enterI T = (q : Int) := by unfold enterI; rw [he]
    rw [hEi] at hE
    have gq : decide ((q : Int) < 0) = false := decide_eq_false (by omega)
    have hqW : q < W := by rw [hhd] at hq; omega
    have hpos' : 0 < (T.row p).getD q 0 := hpos
    clear hEi hst hpos
    repeat' (first
      | (with_reducible first | refine sA ?_ ?_ | refine sB ?_ ?_ | refine sC ?_ ?_ | refine sD ?_ ?_ | refine sE ?_ ?_ | refine sF ?_ ?_) <;> intro h
      | simp only [go_sem, *])
    refine clK_ic hE (fun v h' hQ => ?_)
    obtain ⟨rfl, rfl⟩ := hQ
    repeat' (first
      | (with_reducible first | refine sA ?_ ?_ | refine sB ?_ ?_ | refine sC ?_ ?_ | refine sD ?_ ?_ | refine sE ?_ ?_ | refine sF ?_ ?_) <;> intro h
      | simp only [go_sem, *])
    refine clK_ic (leave_i hT hokT hN (by omega) (hG0.row_FB hI) hqW hl) (fun v h' hQ => ?_)
    obtain ⟨rfl, hT2, hs2⟩ := hQ
    have hf2 := hs2 _ _ (by simp) hfl
    repeat' (first
      | (with_reducible first | refine sA ?_ ?_ | refine sB ?_ ?_ | refine sC ?_ ?_ | refine sD ?_ ?_ | refine sE ?_ ?_ | refine sF ?_ ?_) <;> intro h
      | simp only [go_sem, *])
    refine clK_ic (pivot_i hT2 hokT hN (by omega) (hG0.row_FB hI) (hG0.cost_FB hI) hp hqW hpos') (fun v h'' hQ => ?_)
    obtain ⟨hT3, hk3⟩ := hQ
    have hf3 := hk3 _ _ rfl rfl rfl hf2
    repeat' (first
      | (with_reducible first | refine sA ?_ ?_ | refine sB ?_ ?_ | refine sC ?_ ?_ | refine sD ?_ ?_ | refine sE ?_ ?_ | refine sF ?_ ?_) <;> intro h
      | simp only [go_sem, *])
    exact hG k1 _ (by omega) ⟨_, hT3, hG1, hr1, hf3⟩
  | none =>
    have hEq := runL_none hr0 he
    subst hEq
    have hEi : enterI TE = -1 := by unfold enterI; rw [he]
    rw [hEi] at hE
    have gq : decide ((-1 : Int) < 0) = true := rfl
    obtain ⟨t1, t2, t3, t4, t5⟩ := hT
    repeat' (first
      | (with_reducible first | refine sA ?_ ?_ | refine sB ?_ ?_ | refine sC ?_ ?_ | refine sD ?_ ?_ | refine sE ?_ ?_ | refine sF ?_ ?_) <;> intro h
      | simp only [go_sem, *])
    refine clK_ic hE (fun v h' hQ => ?_)
    obtain ⟨rfl, rfl⟩ := hQ
    replace c0 : s'.sl 0 = .t (.sl true (m.map fun r => .sl b (r.map encQ))) := c0
    have hcw := hokT.cw
    have hwr : IntKind.i64.wrap ((W : Int) - 1) = ((W - 1 : Nat) : Int) := by rw [wrap_i64 (by omega) (by omega)]; omega
    have hwl : W - 1 < W := by omega
    have hlq : TE.cost[W - 1]? = some (TE.cost.getD (W - 1) 0) := by rw [List.getD_eq_getElem?_getD, List.getElem?_eq_getElem (by omega)]; rfl
    have hld := ratsC_get hlq
    have hcl := ratsC_len TE.cost
    rw [hcw] at hcl
    have hw6 : (W - 1) * 6 + 6 ≤ W * 6 := by omega
    have sg := qsign_d (TE.cost.getD (W - 1) 0)
    have hcols : TE.cols = C := hcT
    rw [hcols] at t1
    have w0 := whole_d 0 (by unfold inI64; omega)
    rw [rc0] at w0
    clear hT hb hrun hr0 hG0 hhd
    by_cases hz : TE.cost.getD (W - 1) 0 = 0
    · have hans : answerL TE rhs m.length = .inl (valuesL C (W - 1) TE.rows TE.basis (List.replicate C 0)) := by
        unfold answerL; rw [hcw, if_pos hz, hcols]
      rw [hans]
      rw [sign_zero hz] at sg
      have gz : ((0 : Int) == 0) = true := rfl
      clear hans
      generalize TE.cost.getD (W - 1) 0 = cq at *
      subst hz
      repeat' (first
        | (with_reducible first | refine sA ?_ ?_ | refine sB ?_ ?_ | refine sC ?_ ?_ | refine sD ?_ ?_ | refine sE ?_ ?_ | refine sF ?_ ?_) <;> intro h
        | refine clK_mk (sg) rfl ?_
        | simp only [go_sem, *, beq_self_eq_true])
      with_reducible refine hpK_if ?_ ?_
      · exact ⟨by omega, by omega⟩
      repeat' (first
        | (with_reducible first | refine sA ?_ ?_ | refine sB ?_ ?_ | refine sC ?_ ?_ | refine sD ?_ ?_ | refine sE ?_ ?_ | refine sF ?_ ?_) <;> intro h
        | simp only [go_sem, *, beq_self_eq_true])
      generalize s'.hp = h0 at *
      have hb52 : ∀ id o, hget h0 id = some o → (id == hnext h0 52) = false := fun id o ho => by
        have := ne_hnext (s := 52) ho
        rw [beq_eq_false_iff_ne] at this ⊢
        exact fun e => this e.symm
      refine loop_range (List.range (C)) (fun k s' => ∃ cur : List Tr, hget s'.hp (hnext h0 52) = some ⟨(flat cur).map .t, 6, C, tRat, true, true⟩ ∧ cur.length = C ∧ (∀ z ∈ cur, elemOK true 6 z) ∧ cur.take k = List.replicate k (encQ 0) ∧ Same h0 s'.hp []) rfl (by rw [List.length_range]; rfl) (by rw [List.length_range]; first | assumption | omega) (by kernel_rfl) (fun _ _ _ _ hj => hj) (fun _ _ _ hj => hj) ?_ (fun j y u hy hyd hj hJ hjx hfr H hH => ?_) (fun u hJ hfr => ?_)
      · refine ⟨List.replicate C (.agg qz), ?_, by simp, fun z hz => by rw [(List.mem_replicate.1 hz).2]; exact ⟨fun _ => rfl, (fun h => nomatch h), rfl⟩, rfl, Same.new _ _ _⟩
        rw [← zrow_flat]; exact hget_new _ _
      · have e7 := hfr 7 (by kernel_rfl)
        have e10 := hfr 10 (by kernel_rfl)
        have e11 := hfr 11 (by kernel_rfl)
        clear hfr
        simp only [go_sem, c7] at e7 e10 e11
        obtain ⟨cur, g, hcul, hok, htk, hsm⟩ := hJ
        rw [List.length_range] at hj
        have hyj : y = j := by rw [List.getElem?_range hj] at hy; injection hy with hy; exact hy.symm
        subst hyj
        clear hy hyd
        obtain ⟨z, hz, _⟩ := get_of_lt cur y (by omega)
        have he6 : ∀ z ∈ cur, z.cells.length = 6 := fun z hz => (hok z hz).2.2
        have hspl : splice (List.map PV.t (flat cur)) (y * 6) ((ratC 0).map PV.t) = List.map PV.t (flat (cur.set y (encQ 0))) := flat_splice he6 (x := z) (y := encQ 0) hz (ratC_length _)
        have hfl6 : (flat cur).length = C * 6 := by rw [flat_length _ 6 he6, hcul]
        have hy6 : y * 6 + 6 ≤ C * 6 := by omega
        have hq0 : (ratC 0).length = 6 := ratC_length _
        repeat' (first
          | (with_reducible first | refine sA ?_ ?_ | refine sB ?_ ?_ | refine sC ?_ ?_ | refine sD ?_ ?_ | refine sE ?_ ?_ | refine sF ?_ ?_) <;> intro h
          | refine clK_mk (w0) rfl ?_
          | simp only [go_sem, *, beq_self_eq_true])
        refine hH _ ⟨cur.set y (encQ 0), ?_, by simp [hcul], ?_, ?_, ?_⟩
        · exact set_same g _
        · intro w hw
          rcases List.mem_or_eq_of_mem_set hw with hw | rfl
          · exact hok w hw
          · exact ok_encQ _
        · rw [take_set_succ _ _ _ (by omega), htk, List.replicate_succ']
        · exact same_next hsm _
      · have e7 := hfr 7 (by kernel_rfl)
        have e10 := hfr 10 (by kernel_rfl)
        have e11 := hfr 11 (by kernel_rfl)
        clear hfr
        simp only [go_sem, c7] at e7 e10 e11
        obtain ⟨cur, g, hcul, hok, htk, hsm⟩ := hJ
        rw [List.length_range, List.take_of_length_le (by omega)] at htk
        have g : hget u.hp (hnext h0 52) = some ⟨ratsC (List.replicate C 0), 6, C, tRat, true, true⟩ := by
          rw [g, htk]; unfold ratsC; rw [List.map_replicate]
        have u1 := hsm _ _ (by simp) t1
        have u3 := hsm _ _ (by simp) t3
        clear hok hcul htk
        have hrn := hokT.rn
        have hbn := hokT.bn
        have hrw := hokT.rw'
        clear hG hE
        rename_i hjj hfrr
        repeat' (first
          | (with_reducible first | refine sA ?_ ?_ | refine sB ?_ ?_ | refine sC ?_ ?_ | refine sD ?_ ?_ | refine sE ?_ ?_ | refine sF ?_ ?_) <;> intro h
          | simp only [go_sem, *, beq_self_eq_true])
        refine loop_range (List.range (m.length)) (fun k s' => ∃ cur : List Rat, hget s'.hp (hnext h0 52) = some ⟨ratsC cur, 6, C, tRat, true, true⟩ ∧ cur.length = C ∧ valuesL C (W - 1) (TE.rows.drop k) (TE.basis.drop k) cur = valuesL C (W - 1) TE.rows TE.basis (List.replicate C 0) ∧ Same h0 s'.hp []) rfl (by rw [List.length_range]; rfl) (by rw [List.length_range]; first | assumption | omega) (by kernel_rfl) (fun _ _ _ _ hj => hj) (fun _ _ _ hj => hj) ?_ (fun j y u hy hyd hj hJ hjx hfr H hH => ?_) (fun u hJ hfr => ?_)
        · exact ⟨_, g, by simp, rfl, hsm⟩
        · skip
          have e7 := hfr 7 (by kernel_rfl)
          have e10 := hfr 10 (by kernel_rfl)
          have e11 := hfr 11 (by kernel_rfl)
          have e66 := hfr 66 (by kernel_rfl)
          clear hfr
          simp only [go_sem, c7] at e7 e10 e11 e66
          obtain ⟨cur, g, hcul, hJ, hsm⟩ := hJ
          rw [List.length_range] at hj
          have hyj : y = j := by rw [List.getElem?_range hj] at hy; injection hy with hy; exact hy.symm
          subst hyj
          clear hy hyd u1 u3
          have u1 := hsm _ _ (by simp) t1
          have u3 := hsm _ _ (by simp) t3
          have u4 := hsm _ _ (by simp) t4
          obtain ⟨r, hr1, hrd⟩ := get_of_lt TE.rows y (by omega)
          obtain ⟨bv, hb1, hbd⟩ := get_of_lt TE.basis y (by omega)
          have hbD : TE.basis.getD y 0 = bv := by rw [List.getD_eq_getElem?_getD, hb1]; rfl
          have hbg := basis_get (l := TE.basis) (k := y) (by omega)
          rw [hbD] at hbg
          have u5 := hsm _ _ (by simp) (t5 y r hr1)
          have hrl := hrw r (List.mem_of_getElem? hr1)
          have hrg := range_get (n := m.length) (f := fun i => .rf (81, i) W) hj
          have hlr : r[W - 1]? = some (r.getD (W - 1) 0) := by rw [List.getD_eq_getElem?_getD, List.getElem?_eq_getElem (by omega)]; rfl
          have hlr2 := ratsC_get hlr
          have hrcl := ratsC_len r
          rw [hrl] at hrcl
          rw [hrd, hbd, valuesL] at hJ
          have hcc := ratsC_len cur
          rw [hcul] at hcc
          by_cases hbc : bv < C
          · have gb : decide ((bv : Int) < (C : Int)) = true := decide_eq_true (by omega)
            rw [if_pos hbc] at hJ
            have hst := ratsC_set (l := cur) (k := bv) (q := r.getD (W - 1) 0) (by omega)
            have hb6 : bv * 6 + 6 ≤ C * 6 := by omega
            have hq6 : (ratC (r.getD (W - 1) 0)).length = 6 := ratC_length _
            generalize r.getD (W - 1) 0 = q at *
            repeat' (first
              | (with_reducible first | refine sA ?_ ?_ | refine sB ?_ ?_ | refine sC ?_ ?_ | refine sD ?_ ?_ | refine sE ?_ ?_ | refine sF ?_ ?_) <;> intro h
              | simp only [go_sem, *, beq_self_eq_true])
            refine hH _ ⟨cur.set bv q, ?_, by simp [hcul], hJ, ?_⟩
            · exact set_same g _
            · exact same_next hsm _
          · have gb : decide ((bv : Int) < (C : Int)) = false := decide_eq_false (by omega)
            rw [if_neg hbc] at hJ
            repeat' (first
              | (with_reducible first | refine sA ?_ ?_ | refine sB ?_ ?_ | refine sC ?_ ?_ | refine sD ?_ ?_ | refine sE ?_ ?_ | refine sF ?_ ?_) <;> intro h
              | simp only [go_sem, *, beq_self_eq_true])
            exact hH _ ⟨cur, g, hcul, hJ, hsm⟩
        · skip
          have e7 := hfr 7 (by kernel_rfl)
          have e10 := hfr 10 (by kernel_rfl)
          have e11 := hfr 11 (by kernel_rfl)
          clear hfr
          simp only [go_sem, c7] at e7 e10 e11
          obtain ⟨cur, g, hcul, hJ, hsm⟩ := hJ
          rw [List.length_range, List.drop_of_length_le (by omega)] at hJ
          have hJ2 : cur = valuesL C (W - 1) TE.rows TE.basis (List.replicate C 0) := by
            rw [← hJ]; cases TE.basis.drop m.length <;> rfl
          rw [← hJ2]
          have hdep : toTr u.hp dep (.rf (hnext h0 52) C) = some (.sl true (cur.map encQ)) := toTr_flat 5 (ok_rats _) (by simp [hcul]) g
          unfold encAns
          repeat' (first
            | (with_reducible first | refine sA ?_ ?_ | refine sB ?_ ?_ | refine sC ?_ ?_ | refine sD ?_ ?_ | refine sE ?_ ?_ | refine sF ?_ ?_) <;> intro h
            | simp only [go_sem, *])
    · have hans : answerL TE rhs m.length = .inr (multL C TE rhs m.length) := by
        unfold answerL; rw [hcw, if_neg hz, hcols]
      rw [hans]
      have gz : ((TE.cost.getD (W - 1) 0).num.sign == 0) = false := by
        have : (TE.cost.getD (W - 1) 0).num ≠ 0 := fun h => hz (Rat.num_eq_zero.1 h)
        rw [beq_eq_false_iff_ne]
        exact fun hh => this (Int.sign_eq_zero_iff_zero.1 hh)
      clear hans hz
      generalize TE.cost.getD (W - 1) 0 = cq at *
      repeat' (first
        | (with_reducible first | refine sA ?_ ?_ | refine sB ?_ ?_ | refine sC ?_ ?_ | refine sD ?_ ?_ | refine sE ?_ ?_ | refine sF ?_ ?_) <;> intro h
        | refine clK_mk (sg) rfl ?_
        | simp only [go_sem, *, beq_self_eq_true])
      with_reducible refine hpK_if ?_ ?_
      · exact ⟨by omega, by omega⟩
      have hcfb := hGE.cost_FB hI
      have h1f : qfits 1 := ((FB.int 1).mono (d' := bigN m.length c) (n' := bigN m.length c) hN.1 hN.1).q1 hN
      have wo := whole_d 1 (by unfold inI64; omega)
      rw [rc1] at wo
      clear hG hE
      generalize s'.hp = h0 at *
      repeat' (first
        | (with_reducible first | refine sA ?_ ?_ | refine sB ?_ ?_ | refine sC ?_ ?_ | refine sD ?_ ?_ | refine sE ?_ ?_ | refine sF ?_ ?_) <;> intro h
        | simp only [go_sem, *, beq_self_eq_true])
      refine loop_range (List.range (m.length)) (fun k s' => ∃ cur : List Tr, hget s'.hp (hnext h0 96) = some ⟨(flat cur).map .t, 6, m.length, tRat, true, true⟩ ∧ cur.length = m.length ∧ (∀ z ∈ cur, elemOK true 6 z) ∧ cur.take k = ((multL C TE rhs m.length).take k).map encQ ∧ Same h0 s'.hp []) rfl (by rw [List.length_range]; rfl) (by rw [List.length_range]; first | assumption | omega) (by kernel_rfl) (fun _ _ _ _ hj => hj) (fun _ _ _ hj => hj) ?_ (fun j y u hy hyd hj hJ hjx hfr H hH => ?_) (fun u hJ hfr => ?_)
      · refine ⟨List.replicate m.length (.agg qz), ?_, by simp, fun z hz => by rw [(List.mem_replicate.1 hz).2]; exact ⟨fun _ => rfl, (fun h => nomatch h), rfl⟩, rfl, Same.new _ _ _⟩
        rw [← zrow_flat]; exact hget_new _ _
      · have e7 := hfr 7 (by kernel_rfl)
        have e8 := hfr 8 (by kernel_rfl)
        have e15 := hfr 15 (by kernel_rfl)
        clear hfr
        simp only [go_sem, c7, c8] at e7 e8 e15
        obtain ⟨cur, g, hcul, hok, htk, hsm⟩ := hJ
        rw [List.length_range] at hj
        have hyj : y = j := by rw [List.getElem?_range hj] at hy; injection hy with hy; exact hy.symm
        subst hyj
        clear hy hyd
        obtain ⟨z, hz, _⟩ := get_of_lt cur y (by omega)
        obtain ⟨v, hv, _⟩ := get_of_lt rhs y (by omega)
        have he6 : ∀ z ∈ cur, z.cells.length = 6 := fun z hz => (hok z hz).2.2
        have hspl : ∀ q : Rat, splice (List.map PV.t (flat cur)) (y * 6) ((ratC q).map PV.t) = List.map PV.t (flat (cur.set y (encQ q))) := fun q => flat_splice he6 (x := z) (y := encQ q) hz (ratC_length _)
        have hfl6 : (flat cur).length = m.length * 6 := by rw [flat_length _ 6 he6, hcul]
        have hy6 : y * 6 + 6 ≤ m.length * 6 := by omega
        have hq6 : ∀ q : Rat, (ratC q).length = 6 := fun q => ratC_length _
        have u1 := hsm _ _ (by simp) t1
        have u2 := hsm _ _ (by simp) t2
        have uf := hsm _ _ (by simp) hfl
        have pf := fun o => set_other uf (.inr (ne_hnext (s := 96) hfl)) o
        have hcy : TE.cost[C + y]? = some (TE.cost.getD (C + y) 0) := by rw [List.getD_eq_getElem?_getD, List.getElem?_eq_getElem (by omega)]; rfl
        have hcy2 := ratsC_get hcy
        have hcf := (hcfb _ (List.mem_of_getElem? hcy)).q1 hN
        have w2 := qsub_d (TE.cost.getD (C + y) 0) 1 hcf h1f
        have wn := qneg_d (TE.cost.getD (C + y) 0 - 1)
        have hCy6 : (C + y) * 6 + 6 ≤ W * 6 := by omega
        have hCy7 : C + y < W := by omega
        have hwy : IntKind.i64.wrap ((C : Int) + (y : Int)) = ((C + y : Nat) : Int) := by rw [wrap_i64 (by omega) (by omega)]; rfl
        have hfg : (rhs.map (fun x => PV.t (.bool (flipB x))))[y]? = some (.t (.bool (flipB v))) := by rw [List.getElem?_map, hv]; rfl
        have hM : (multL C TE rhs m.length)[y]? = some (flipR (flipB v) (TE.cost.getD (C + y) 0 - 1)) := by
          have : rhs.getD y 0 = v := by rw [List.getD_eq_getElem?_getD, hv]; rfl
          unfold multL
          rw [List.getElem?_map, List.getElem?_range hj, ← this]; rfl
        have htk2 : ∀ q, flipR (flipB v) (TE.cost.getD (C + y) 0 - 1) = q → (cur.set y (encQ q)).take (y + 1) = ((multL C TE rhs m.length).take (y + 1)).map encQ := fun q hq => by
          rw [take_set_succ _ _ _ (by omega), htk, List.take_add_one, List.map_append, hM, hq]; rfl
        have hok2 : ∀ q : Rat, ∀ w ∈ cur.set y (encQ q), elemOK true 6 w := fun q w hw => by
          rcases List.mem_or_eq_of_mem_set hw with hw | rfl
          · exact hok w hw
          · exact ok_encQ _
        generalize TE.cost.getD (C + y) 0 - 1 = q at *
        cases hfv : flipB v with
        | false =>
          rw [hfv] at hfg htk2
          have htk3 := htk2 q rfl
          repeat' (first
            | (with_reducible first | refine sA ?_ ?_ | refine sB ?_ ?_ | refine sC ?_ ?_ | refine sD ?_ ?_ | refine sE ?_ ?_ | refine sF ?_ ?_) <;> intro h
            | refine clK_mk (wo) rfl ?_
            | refine clK_mk (w2) rfl ?_
            | simp only [go_sem, *, beq_self_eq_true, hnext_fstS])
          refine hH _ ⟨cur.set y (encQ q), ?_, by simp [hcul], hok2 q, htk3, ?_⟩
          · exact set_same g _
          · exact same_next hsm _
        | true =>
          rw [hfv] at hfg htk2
          have htk3 := htk2 (-q) rfl
          have he7 : ∀ z ∈ cur.set y (encQ q), z.cells.length = 6 := fun z hz => (hok2 q z hz).2.2
          have hgy : (cur.set y (encQ q))[y]? = some (encQ q) := List.getElem?_set_self (by omega)
          have hgl : List.take 6 (List.drop (y * 6) (List.map PV.t (flat (cur.set y (.agg (ratC q)))))) = (ratC q).map PV.t := flat_cells_get he7 hgy
          have hsp2 : splice (List.map PV.t (flat (cur.set y (.agg (ratC q))))) (y * 6) ((ratC (-q)).map PV.t) = List.map PV.t (flat (cur.set y (.agg (ratC (-q))))) := by
            have := flat_splice he7 (x := encQ q) (y := encQ (-q)) hgy (ratC_length _)
            rw [List.set_set] at this
            exact this
          have hfl7 : (flat (cur.set y (.agg (ratC q)))).length = m.length * 6 := by
            have := flat_length _ 6 he7
            rw [List.length_set, hcul] at this; exact this
          repeat' (first
            | (with_reducible first | refine sA ?_ ?_ | refine sB ?_ ?_ | refine sC ?_ ?_ | refine sD ?_ ?_ | refine sE ?_ ?_ | refine sF ?_ ?_) <;> intro h
            | refine clK_mk (wo) rfl ?_
            | refine clK_mk (w2) rfl ?_
            | refine clK_mk (wn) rfl ?_
            | simp only [go_sem, *, beq_self_eq_true, hnext_fstS])
          refine hH _ ⟨cur.set y (encQ (-q)), ?_, by simp [hcul], hok2 (-q), htk3, ?_⟩
          · exact set_same (set_same g _) _
          · exact same_next (same_next hsm _) _
      · skip
        have e7 := hfr 7 (by kernel_rfl)
        have e8 := hfr 8 (by kernel_rfl)
        have e15 := hfr 15 (by kernel_rfl)
        clear hfr
        simp only [go_sem, c7, c8] at e7 e8 e15
        obtain ⟨cur, g, hcul, hok, htk, hsm⟩ := hJ
        have hml : (multL C TE rhs m.length).length = m.length := by simp [multL]
        rw [List.length_range, List.take_of_length_le (by omega), List.take_of_length_le (by omega)] at htk
        have hdep : toTr u.hp dep (.rf (hnext h0 96) m.length) = some (.sl true cur) := toTr_flat 5 hok hcul g
        rw [htk] at hdep
        unfold encAns
        repeat' (first
          | (with_reducible first | refine sA ?_ ?_ | refine sB ?_ ?_ | refine sC ?_ ?_ | refine sD ?_ ?_ | refine sE ?_ ?_ | refine sF ?_ ?_) <;> intro h
          | simp only [go_sem, *])
end YtihgdplbehempaaGreat
end Go.Vm
end
section
set_option linter.unusedSimpArgs false
namespace Go.Vm
open Go Go.Proofs
namespace YtihgdplbehempaaGreat
open Go.Proofs.Tryz
theorem typed_int {t : TypeId} {k : IntKind} {xs : List Tr} (hu : Tryz.prog.underlying t = some (.int k)) (h : Typed Tryz.prog t xs) : ∃ n, xs = [.int k n] := by
  cases h with
  | int h => rw [hu] at h; injection h with h; injection h with h; subst h; exact ⟨_, rfl⟩
  | bool h => rw [hu] at h; cases h
  | str h => rw [hu] at h; cases h
  | snil h => rw [hu] at h; cases h
  | sl h => rw [hu] at h; cases h
  | struct h => rw [hu] at h; cases h
theorem typed_sl {α : Type} {t e : TypeId} {xs : List Tr} (hu : Tryz.prog.underlying t = some (.slice e)) (f : α → Tr) (hel : ∀ x, Typed Tryz.prog e x.cells → (aggB Tryz.prog e = some true → x = .agg x.cells) → x.cells.length = Tryz.prog.cellsOf e → (aggB Tryz.prog e = some false → x.cells = [x]) → ∃ a, x = f a) (h : Typed Tryz.prog t xs) : ∃ nn l, xs = [.sl nn (List.map f l)] := by
  cases h with
  | snil h => exact ⟨false, [], rfl⟩
  | @sl _ e' l h h1 h2 h3 h4 =>
    rw [hu] at h; injection h with h; injection h with h; subst h
    have : ∃ q : List α, l = q.map f := by
      induction l with
      | nil => exact ⟨[], rfl⟩
      | cons x l ih =>
        obtain ⟨q, rfl⟩ := ih (fun y hy => h1 y (by simp [hy])) (fun y hy => h2 y (by simp [hy])) (fun y hy => h3 y (by simp [hy])) (fun y hy => h4 y (by simp [hy]))
        obtain ⟨a, rfl⟩ := hel x (h1 x (by simp)) (h2 x (by simp)) (h3 x (by simp)) (h4 x (by simp))
        exact ⟨a :: q, rfl⟩
    obtain ⟨q, rfl⟩ := this
    exact ⟨true, q, rfl⟩
  | bool h => rw [hu] at h; cases h
  | int h => rw [hu] at h; cases h
  | str h => rw [hu] at h; cases h
  | struct h => rw [hu] at h; cases h
theorem typed_struct {t : TypeId} {fs : Array Field} {xs : List Tr} (hu : Tryz.prog.underlying t = some (.struct fs)) (h : Typed Tryz.prog t xs) : xs.length = Tryz.prog.cellsOf t ∧ ∀ f ∈ fs.toList, Typed Tryz.prog f.type ((xs.drop f.offset).take (Tryz.prog.cellsOf f.type)) := by
  cases h with
  | struct h h1 h2 => rw [hu] at h; injection h with h; injection h with h; subst h; exact ⟨h1, h2⟩
  | bool h => rw [hu] at h; cases h
  | int h => rw [hu] at h; cases h
  | str h => rw [hu] at h; cases h
  | snil h => rw [hu] at h; cases h
  | sl h => rw [hu] at h; cases h
theorem typed_ints {t : TypeId} {xs : List Tr} (hu : Tryz.prog.underlying t = some (.slice 2)) (h : Typed Tryz.prog t xs) : ∃ nn l, xs = [.sl nn (ints l)] := by
  refine typed_sl hu (Tr.int .i64) (fun x h1 _ _ h4 => ?_) h
  obtain ⟨n, hn⟩ := typed_int (k := .i64) (by kernel_rfl) h1
  have := h4 (by kernel_rfl)
  rw [hn] at this
  injection this with h5
  exact ⟨n, h5.symm⟩
theorem len2 {xs : List Tr} (h : xs.length = 2) : ∃ a b, xs = [a, b] := by
  match xs, h with
  | [a, b], _ => exact ⟨a, b, rfl⟩
theorem typed_row {xs : List Tr} (h : Typed Tryz.prog 37 xs) : ∃ r : Row, .agg xs = r.tr := by
  obtain ⟨hl, hf⟩ := typed_struct Tryz.underlying37 h
  obtain ⟨a, b, rfl⟩ := len2 (hl.trans (by kernel_rfl))
  simp only [List.mem_cons, List.not_mem_nil, or_false, forall_eq_or_imp, forall_eq] at hf
  simp only [go_sem] at hf
  obtain ⟨h1, h2⟩ := hf
  obtain ⟨nn, l, e1⟩ := typed_ints (by kernel_rfl) h1
  obtain ⟨n, e2⟩ := typed_int (k := .i64) (by kernel_rfl) h2
  injection e1 with e1; injection e2 with e2
  subst e1; subst e2
  exact ⟨⟨nn, l, n⟩, rfl⟩
theorem typed_rows {t : TypeId} {xs : List Tr} (hu : Tryz.prog.underlying t = some (.slice 37)) (h : Typed Tryz.prog t xs) : ∃ nn l, xs = [.sl nn (List.map Row.tr l)] := by
  refine typed_sl hu Row.tr (fun x h1 h2 _ _ => ?_) h
  obtain ⟨r, hr⟩ := typed_row h1
  exact ⟨r, (h2 (by kernel_rfl)).trans hr⟩
end YtihgdplbehempaaGreat
end Go.Vm
end
section
set_option linter.unusedSimpArgs false
set_option maxRecDepth 10000
namespace Go.Vm
open Go Go.Proofs Go.Whole
section
variable {P : Program} {mu : Nat → Bool} {F : Ex → St → Prop} {r : List Item} {s : St} {h : Hp}
theorem hpK_append_any2 {d site : Nat} {t e : TypeId} {esz by_ : Nat} {ag nn' : Bool} {v : PV} {l xs : List Tr} (ho : Own h site e esz ag v true l) (hel : elemB P t = some e) (hsz : P.cellsOf e = esz) (hz : (zeroB P e).map List.length = some esz) (h1 : Nat.blt 0 esz = true)
    (hby : P.bytesOf e = by_) (hx : ∀ x ∈ xs, elemOK ag esz x) (hb : (l.length + xs.length) * by_ ≤ 140737488355328 ∧ l.length + xs.length ≤ 4611686018427387904)
    (hk : ∀ v' h', Own h' site e esz ag v' true (l ++ xs) → (∀ s', (s' == site) = false → h' s' = h s') → kont P mu F r .normal ⟨upd s.sl d v', h'⟩) :
    hpK P mu F (appendPV P mu (some d) t v (.t (.sl nn' xs)) h) (some d) r s := by
  obtain ⟨v', h', h2, h3, h4⟩ := append_any (mu := mu) (d := d) (nn' := nn') hel hsz (by simp [Nat.blt] at h1; omega) (by
    cases hzz : zeroB P e with
    | none => rw [hzz] at hz; cases hz
    | some z => rw [hzz] at hz; exact ⟨z, rfl, by simpa using hz⟩) ho hx (by rw [hby]; exact hb)
  rw [h2, hpK_some]
  exact hk v' h' h3 h4
end
section
variable {H : Type} {enc : TypeId × Value → H} {P : Program} {w : World} {base : Nat} {spare : Nat → Bool} {held : Bool}
theorem arg_len {t e : TypeId} {a : Option Addr} {len cap : Nat} {d : DataW H} {ps : List MemPlace} (hu : P.underlying t = some (.slice e)) (h : DataW.Trod enc P w base spare held t (.slice a len cap) d ps) : len = 0 ∨ ∃ el sp, d = .slice el sp ∧ el.length = len := by
  obtain ⟨fuel, hf⟩ := h
  cases fuel with
  | zero => simp [DataW.trod] at hf
  | succ fuel =>
    unfold DataW.trod at hf
    rw [hu] at hf
    cases a with
    | none =>
      simp only [Value.cells] at hf
      split at hf <;> simp_all
    | some a =>
      simp only [Value.cells] at hf
      right
      split at hf <;> try (cases hf; done)
      cases hmm : (List.range len).mapM (fun i => (w.cells? base (a.add (i * P.cellsOf e)) (P.cellsOf e)).bind (DataW.trod enc P w base spare held fuel e)) with
      | none => rw [hmm] at hf; simp at hf
      | some ys =>
        rw [hmm] at hf
        have hyl := mapM_some_length hmm
        simp only [Option.bind_some] at hf
        obtain ⟨rest, _, hr⟩ := Option.map_eq_some_iff.1 hf
        simp only [Prod.mk.injEq] at hr
        exact ⟨_, _, hr.1.symm, by rw [List.length_map, hyl, List.length_range]⟩
theorem reads_len {L : Nat → Prop} {nn : Bool} {l : List Tr} {a : Option Addr} {len cap : Nat} (h : Reads w L (.sl nn l) (.slice a len cap)) : l.length = len := by
  cases h <;> rfl
end
namespace YtihgdplbehempaaGreat
open Go.Proofs.Tryz
theorem append_rf2 {P : Program} {mu : Nat → Bool} {h : Hp} {d : Option Tmp} {t e : TypeId} {id : Id} {n by_ : Nat} {nn' : Bool} {cs : List PV} {ag : Bool} {xs : List Tr} {esz : Nat} (hel : elemB P t = some e) (hsz : P.cellsOf e = esz) (hz : (zeroB P e).map List.length = some esz) (h1 : Nat.blt 0 esz = true) (hby : P.bytesOf e = by_)
    (hx : ∀ x ∈ xs, x.cells.length = esz) (hg : hget h id = some ⟨cs, esz, n, e, ag, true⟩) (hb : (n + xs.length) * by_ ≤ 140737488355328 ∧ n + xs.length ≤ 4611686018427387904) (hne : xs ≠ []) :
    appendPV P mu d t (.rf id n) (.t (.sl nn' xs)) h = some (.rf id (n + xs.length), hset h id ⟨cs ++ (flat xs).map .t, esz, n + xs.length, e, ag, true⟩) := by
  have hpos : 0 < esz := by simp [Nat.blt] at h1; omega
  have hzz : ∃ z, zeroB P e = some z ∧ z.length = esz := by
    cases hzz : zeroB P e with
    | none => rw [hzz] at hz; cases hz
    | some z => rw [hzz] at hz; exact ⟨z, rfl, by simpa using hz⟩
  obtain ⟨z, hz1, hz2⟩ := hzz
  have hfl := flat_length xs esz hx
  have hl0 : xs.length ≠ 0 := fun e => hne (List.eq_nil_of_length_eq_zero e)
  unfold appendPV
  simp only [hel, hz1, srcPV, hfl, hsz, if_true, hz2, true_and, hg, hby]
  rw [if_pos hpos, if_pos hb, if_neg hl0]
theorem cloneRows_i2 (l : List Row) (h : Hp) (hlen : l.length ≤ 4398046511104) :
    ICall Tryz.prog 159 [.t (.sl true (l.map Row.tr))] h (fun v h' => v = .rf (hnext h 5) l.length ∧ h' = hnew h 5 ⟨(flat (l.map Row.tr)).map .t, 2, l.length, tRow, true, true⟩) := by
  by_cases hne : l = []
  · subst hne
    exact cloneRows_i' [] h (by simp)
  · have hempty : ¬ l = [] := hne
    refine icall_mk orders Tryz.func159 rfl (by kernel_rfl) (fun d => d == 5 || d == 7) (by kernel_rfl) rfl (fun hs hlen => ?_)
    clear hs
    repeat' (first
      | (with_reducible first | refine sA ?_ ?_ | refine sB ?_ ?_ | refine sC ?_ ?_ | refine sD ?_ ?_ | refine sE ?_ ?_ | refine sF ?_ ?_) <;> intro h
      | simp only [go_sem, *])
    rw [append_rf2 (esz := 2) (e := tRow) (ag := true) (by_ := 32) (by kernel_rfl) (by kernel_rfl) (by kernel_rfl) rfl (by kernel_rfl) (fun x hx => (ok_rows l x hx).2.2) (hget_new _ _) (by rw [List.length_map]; omega) (by simpa using hne)]
    simp only [Nat.zero_add, List.length_map, List.nil_append, hset_new]
    repeat' (first
      | (with_reducible first | refine sA ?_ ?_ | refine sB ?_ ?_ | refine sC ?_ ?_ | refine sD ?_ ?_ | refine sE ?_ ?_ | refine sF ?_ ?_) <;> intro h
      | simp only [go_sem, *])
theorem both_d2 (rnn : Bool) (rows : List Row) (row : Row) (hlen : rows.length ≤ 4398046511103) : DCall Tryz.prog 29 [.sl rnn (rows.map Row.tr), row.tr] (.sl true ((rows ++ [row]).map Row.tr)) := by
  refine dcall_mk orders Tryz.func29 rfl (by kernel_rfl) (fun d => d == 5 || d == 7 || d == 10) (by kernel_rfl) rfl (fun hs => ?_)
  clear hs
  repeat' (first
    | (with_reducible first | refine sA ?_ ?_ | refine sB ?_ ?_ | refine sC ?_ ?_ | refine sD ?_ ?_ | refine sE ?_ ?_ | refine sF ?_ ?_) <;> intro h
    | simp only [go_sem, *])
  refine hpK_append_any2 (by_ := 32) (Own.fresh (l := []) (by simp)) (by kernel_rfl) (by kernel_rfl) (by kernel_rfl) rfl (by kernel_rfl) (ok_rows rows) (by simp; omega) (fun v' h' ho hf => ?_)
  repeat' (first
    | (with_reducible first | refine sA ?_ ?_ | refine sB ?_ ?_ | refine sC ?_ ?_ | refine sD ?_ ?_ | refine sE ?_ ?_ | refine sF ?_ ?_) <;> intro h
    | simp only [go_sem, *])
  refine hpK_append_any2 (by_ := 32) ho (by kernel_rfl) (by kernel_rfl) (by kernel_rfl) rfl (by kernel_rfl) (ok_rows [row]) (by simp; omega) (fun v'' h'' ho2 hf2 => ?_)
  have hdep := ho2.dep
  repeat' (first
    | (with_reducible first | refine sA ?_ ?_ | refine sB ?_ ?_ | refine sC ?_ ?_ | refine sD ?_ ?_ | refine sE ?_ ?_ | refine sF ?_ ?_) <;> intro h
    | simp only [go_sem, *])
  all_goals simp [Row.tr]
theorem implied_d2 (vars : Int) (rnn : Bool) (rows : List Row) (row : Row) (hlen : rows.length ≤ 4398046511103) : DCall Tryz.prog 78 [i64 vars, .sl rnn (rows.map Row.tr), row.tr] (i64 (sysErr vars (rows ++ [row]))) := by
  by_cases hsm : rows.length ≤ 900000
  · exact implied_d vars rnn rows row hsm
  refine dcall_wf (enters' _ (by kernel_rfl)) fun hw => ?_
  have hnil : rnn = false → rows = [] := fun h => by
    subst h
    simp [wfL, Tr.wf] at hw
    exact hw.1.1
  cases rnn with
  | false =>
    have := hnil rfl
    subst this
    simp at hsm
  | true =>
    have hc := lcheck_d vars true (rows ++ [row])
    have hi := cloneRows_i2 rows (fun _ => []) (by omega)
    clear hw hnil hsm
    refine dcall_mk orders Tryz.func78 rfl (by kernel_rfl) (fun d => d == 9 || d == 13) (by kernel_rfl) rfl (fun hs => ?_)
    clear hs
    repeat' (first
      | (with_reducible first | refine sA ?_ ?_ | refine sB ?_ ?_ | refine sC ?_ ?_ | refine sD ?_ ?_ | refine sE ?_ ?_ | refine sF ?_ ?_) <;> intro h
      | simp only [go_sem, *])
    refine clK_ix hi rfl ?_
    repeat' (first
      | (with_reducible first | refine sA ?_ ?_ | refine sB ?_ ?_ | refine sC ?_ ?_ | refine sD ?_ ?_ | refine sE ?_ ?_ | refine sF ?_ ?_) <;> intro h
      | simp only [go_sem, *])
    rw [append_rf2 (esz := 2) (e := tRow) (ag := true) (by_ := 32) (by kernel_rfl) (by kernel_rfl) (by kernel_rfl) rfl (by kernel_rfl) (fun x hx => by rw [List.mem_singleton.1 hx]; rfl) (hget_new _ _) (by simp; omega) (by simp)]
    have hcells : List.map PV.t (flat (List.map Row.tr rows)) ++ List.map PV.t (flat [Tr.agg [.sl row.nn (List.map (Tr.int .i64) row.coefs), .int .i64 row.const]]) = List.map PV.t (flat ((rows ++ [row]).map Row.tr)) := by
      rw [List.map_append, flat_append, List.map_append]; rfl
    rw [hcells, hset_new]
    have hdep : ∀ n, n = (rows ++ [row]).length → toTr (hnew (fun _ => []) 5 ⟨List.map PV.t (flat ((rows ++ [row]).map Row.tr)), 2, n, tRow, true, true⟩) dep (.rf (hnext (fun _ => []) 5) n) = some (.sl true ((rows ++ [row]).map Row.tr)) := fun n hn => toTr_flat 5 (ok_rows _) (by simp [hn]) (hget_new _ _)
    have hdep2 := hdep (rows.length + 1) (by simp)
    simp only [List.length_cons, List.length_nil]
    repeat' (first
      | (with_reducible first | refine sA ?_ ?_ | refine sB ?_ ?_ | refine sC ?_ ?_ | refine sD ?_ ?_ | refine sE ?_ ?_ | refine sF ?_ ?_) <;> intro h
      | simp only [go_sem, *])
    refine clK_fx hc (by simp only [go_sem, hdep2]) rfl ?_
    repeat' (first
      | (with_reducible first | refine sA ?_ ?_ | refine sB ?_ ?_ | refine sC ?_ ?_ | refine sD ?_ ?_ | refine sE ?_ ?_ | refine sF ?_ ?_) <;> intro h
      | simp only [go_sem, *])
theorem proveError_d (vars : Int) (rnn : Bool) (rows : List Row) (row : Row) (hlen : rows.length ≤ 4398046511103) : DCall Tryz.prog 27 [i64 vars, .sl rnn (rows.map Row.tr), row.tr] (i64 (sysErr vars (rows ++ [row]))) := by
  have h1 := both_d2 rnn rows row hlen
  have h2 := refSys_d vars true (rows ++ [row])
  refine dcall_mk orders Tryz.func27 rfl (by kernel_rfl) noMu (by kernel_rfl) rfl (fun hs => ?_)
  clear hs hlen
  repeat' (first
    | (with_reducible first | refine sA ?_ ?_ | refine sB ?_ ?_ | refine sC ?_ ?_ | refine sD ?_ ?_ | refine sE ?_ ?_ | refine sF ?_ ?_) <;> intro h
    | refine clK_mk (h1) rfl ?_
    | refine clK_mk (h2) rfl ?_
    | simp only [go_sem, *])
end YtihgdplbehempaaGreat
end Go.Vm
end
section
set_option linter.unusedSimpArgs false
set_option maxRecDepth 10000
namespace Go.Vm
open Go Go.Proofs Go.Whole Go.Simplex
namespace YtihgdplbehempaaGreat
open Go.Proofs.Tryz
attribute [go_sem] Tryz.results68 Tryz.results67 Tryz.results69 Tryz.results70 Tryz.results143 Tryz.results18 Tryz.results26 Tryz.results79 Tryz.results81 Tryz.results160
theorem unit_d (V : Nat) (x : Int) (hV : V ≤ 1000) (hx : inI64 x) : DCall Tryz.prog 68 [i64 (V : Nat), i64 x] (.sl true ((unitL V x).map encQ)) := by
  have hw1 : IntKind.i64.wrap ((V : Int) + 1) = ((V + 1 : Nat) : Int) := by rw [wrap_i64 (by omega) (by omega)]; rfl
  have w0 := whole_d 0 (by unfold inI64; omega)
  rw [rc0] at w0
  have wx := whole_d x hx
  obtain ⟨W, hW⟩ : ∃ W, V + 1 = W := ⟨_, rfl⟩
  rw [hW] at hw1
  refine dcall_mk orders Tryz.func68 rfl (by kernel_rfl) (fun d => d == 9) (by kernel_rfl) rfl (fun hs => ?_)
  clear hs
  repeat' (first
    | (with_reducible first | refine sA ?_ ?_ | refine sB ?_ ?_ | refine sC ?_ ?_ | refine sD ?_ ?_ | refine sE ?_ ?_ | refine sF ?_ ?_) <;> intro h
    | simp only [go_sem, *, beq_self_eq_true])
  with_reducible refine hpK_if ?_ ?_
  · exact ⟨by omega, by omega⟩
  repeat' (first
    | (with_reducible first | refine sA ?_ ?_ | refine sB ?_ ?_ | refine sC ?_ ?_ | refine sD ?_ ?_ | refine sE ?_ ?_ | refine sF ?_ ?_) <;> intro h
    | simp only [go_sem, *, beq_self_eq_true, hnext_nil, hget_new0])
  refine loop_range (List.range (W)) (fun k s' => ∃ cur : List Tr, hget s'.hp (9, 0) = some ⟨(flat cur).map .t, 6, W, tRat, true, true⟩ ∧ cur.length = W ∧ (∀ z ∈ cur, elemOK true 6 z) ∧ cur.take k = List.replicate k (encQ 0)) rfl (by rw [List.length_range]; rfl) (by rw [List.length_range]; first | assumption | omega) (by kernel_rfl) (fun _ _ _ _ hj => hj) (fun _ _ _ hj => hj) ?_ (fun j y u hy hyd hj hJ hjx hfr H hH => ?_) (fun u hJ hfr => ?_)
  · refine ⟨List.replicate W (.agg qz), ?_, by simp, fun z hz => by rw [(List.mem_replicate.1 hz).2]; exact ⟨fun _ => rfl, (fun h => nomatch h), rfl⟩, rfl⟩
    rw [← zrow_flat]; rfl
  · have e5 := hfr 5 (by kernel_rfl)
    clear hfr
    simp only [go_sem] at e5
    obtain ⟨cur, g, hcul, hok, htk⟩ := hJ
    rw [List.length_range] at hj
    have hyj : y = j := by rw [List.getElem?_range hj] at hy; injection hy with hy; exact hy.symm
    subst hyj
    clear hy hyd
    obtain ⟨z, hz, _⟩ := get_of_lt cur y (by omega)
    have he6 : ∀ z ∈ cur, z.cells.length = 6 := fun z hz => (hok z hz).2.2
    have hspl : splice (List.map PV.t (flat cur)) (y * 6) ((ratC 0).map PV.t) = List.map PV.t (flat (cur.set y (encQ 0))) := flat_splice he6 (x := z) (y := encQ 0) hz (ratC_length _)
    have hfl6 : (flat cur).length = W * 6 := by rw [flat_length _ 6 he6, hcul]
    have hy6 : y * 6 + 6 ≤ W * 6 := by omega
    have hq0 : (ratC 0).length = 6 := ratC_length _
    clear hw1 hW
    repeat' (first
      | (with_reducible first | refine sA ?_ ?_ | refine sB ?_ ?_ | refine sC ?_ ?_ | refine sD ?_ ?_ | refine sE ?_ ?_ | refine sF ?_ ?_) <;> intro h
      | refine clK_mk (w0) rfl ?_
      | simp only [go_sem, *, beq_self_eq_true])
    refine hH _ ⟨cur.set y (encQ 0), ?_, by simp [hcul], ?_, ?_⟩
    · exact set_same g _
    · intro w hw
      rcases List.mem_or_eq_of_mem_set hw with hw | rfl
      · exact hok w hw
      · exact ok_encQ _
    · rw [take_set_succ _ _ _ (by omega), htk, List.replicate_succ']
  · have e0 := hfr 0 (by kernel_rfl)
    have e1 := hfr 1 (by kernel_rfl)
    have e5 := hfr 5 (by kernel_rfl)
    clear hfr
    simp only [go_sem] at e0 e1 e5
    obtain ⟨cur, g, hcul, hok, htk⟩ := hJ
    rw [List.length_range, List.take_of_length_le (by omega)] at htk
    replace g : hget u.hp (9, 0) = some ⟨ratsC (List.replicate W 0), 6, W, tRat, true, true⟩ := by
      rw [g, htk]; unfold ratsC; rw [List.map_replicate]
    have hst := ratsC_set (l := List.replicate W 0) (k := V) (q := (x : Rat)) (by simp; omega)
    have hcl := ratsC_len (List.replicate W 0)
    rw [List.length_replicate] at hcl
    have hV6 : V * 6 + 6 ≤ W * 6 := by omega
    have hVW : V < W := by omega
    have hq0 : (ratC (x : Rat)).length = 6 := ratC_length _
    have hres : (List.replicate W 0).set V (x : Rat) = unitL V x := by
      rw [← hW]
      unfold unitL
      rw [List.replicate_succ', List.set_append_right _ _ (by simp)]
      simp
    have hdep : toTr (hset u.hp (9, 0) ⟨ratsC ((List.replicate W 0).set V (x : Rat)), 6, W, tRat, true, true⟩) dep (.rf (9, 0) W) = some (.sl true ((unitL V x).map encQ)) := by
      rw [hres]
      exact toTr_flat 5 (ok_rats _) (by simp [unitL]; omega) (set_same g _)
    clear hW hw1 htk hok hcul w0 hres
    repeat' (first
      | (with_reducible first | refine sA ?_ ?_ | refine sB ?_ ?_ | refine sC ?_ ?_ | refine sD ?_ ?_ | refine sE ?_ ?_ | refine sF ?_ ?_) <;> intro h
      | refine clK_mk (wx) rfl ?_
      | simp only [go_sem, *, beq_self_eq_true])
def RowV (h : Hp) (p : PV) (l : List Rat) : Prop := (l = [] ∧ p = .t (.sl false [])) ∨ (l ≠ [] ∧ ∃ id : Id, p = .rf id l.length ∧ (id.1 == 16) = false ∧ hget h id = some ⟨ratsC l, 6, l.length, tRat, true, true⟩)
theorem RowV.same {h h' : Hp} {p : PV} {l : List Rat} (r : RowV h p l) (hs : ∀ id o, (id.1 == 16) = false → hget h id = some o → hget h' id = some o) : RowV h' p l := by
  rcases r with r | ⟨r1, id, r2, r3, r4⟩
  · exact .inl r
  · exact .inr ⟨r1, id, r2, r3, hs id _ r3 r4⟩
theorem RowV.one {h : Hp} {p : PV} {l : List Rat} (r : RowV h p l) : p.cells = [p] ∧ p.one = true := by
  rcases r with ⟨_, rfl⟩ | ⟨_, id, rfl, _, _⟩ <;> exact ⟨rfl, rfl⟩
theorem RowV.toTr {h : Hp} {p : PV} {l : List Rat} (r : RowV h p l) (k : Nat) : toTr h (k + 1) p = some (.sl (!l.isEmpty) (l.map encQ)) := by
  rcases r with ⟨rfl, rfl⟩ | ⟨r1, id, rfl, _, r4⟩
  · rfl
  · have : (!l.isEmpty) = true := by cases l <;> simp_all
    rw [this]
    exact toTr_flat k (ok_rats _) (by simp) r4
def Leads (p : PV) (id : Id) : Prop := ∃ n, p = .rf id n
theorem append_row {mu : Nat → Bool} {h : Hp} {d : Nat} {t : TypeId} {p : PV} {l : List Rat} {q : Rat} (r : RowV h p l) (hmu : mu d = true) (hd : (d == 16) = false) (hel : elemB Tryz.prog t = some tRat) (hl : l.length ≤ 100000) :
    ∃ p' h', appendPV Tryz.prog mu (some d) t p (.t (.sl true [.agg (ratC q)])) h = some (p', h') ∧ RowV h' p' (l ++ [q]) ∧ (∀ id o, ¬ Leads p id → hget h id = some o → hget h' id = some o) ∧ (∀ id o, Leads p' id → hget h id = some o → Leads p id) := by
  rcases r with ⟨rfl, rfl⟩ | ⟨r1, id, rfl, r3, r4⟩
  · refine ⟨.rf (hnext h d) 1, hnew h d ⟨(ratC q).map .t, 6, 1, tRat, true, true⟩, ?_, ?_, ?_, ?_⟩
    · have hz : ∃ z, zeroB Tryz.prog tRat = some z ∧ z.length = 6 := ⟨qz, by kernel_rfl, rfl⟩
      obtain ⟨z, hz1, hz2⟩ := hz
      have hsz : Tryz.prog.cellsOf tRat = 6 := by kernel_rfl
      have hby : Tryz.prog.bytesOf tRat = 80 := by kernel_rfl
      have hag : aggB Tryz.prog tRat = some true := by kernel_rfl
      have hfl : flat [Tr.agg (ratC q)] = ratC q := by simp [flat, Tr.cells]
      unfold appendPV
      simp only [hel, hz1, srcPV, hfl, hsz, ratC_length, List.length_singleton, hby, if_true, true_and]
      rw [if_pos ⟨hz2, by decide⟩, if_neg (by decide), if_pos (by decide)]
      unfold newRowPV
      simp only [hag, hsz, hmu, if_true]
      rw [if_neg (by rintro ⟨h1, _⟩; cases h1)]
    · refine .inr ⟨by simp, hnext h d, rfl, hd, ?_⟩
      rw [hget_new]
      simp [ratsC, flat, encQ, Tr.cells]
    · intro i o _ ho
      exact hget_new_old ho _
    · rintro i o ⟨n, hn⟩ ho
      injection hn with hn _
      subst hn
      rw [hget_hnext] at ho; cases ho
  · have hsz : Tryz.prog.cellsOf tRat = 6 := by kernel_rfl
    have hcs : ratsC l ++ (flat [Tr.agg (ratC q)]).map .t = ratsC (l ++ [q]) := by
      unfold ratsC
      rw [List.map_append, flat_append, List.map_append]; rfl
    refine ⟨.rf id (l.length + 1), hset h id ⟨ratsC (l ++ [q]), 6, l.length + 1, tRat, true, true⟩, ?_, ?_, ?_, ?_⟩
    · rw [← hcs]
      exact append_rf2 (xs := [.agg (ratC q)]) (by_ := 80) hel (by kernel_rfl) (by kernel_rfl) rfl (by kernel_rfl) (fun x hx => by rw [List.mem_singleton.1 hx]; exact ratC_length q) r4 (by simp; omega) (by simp)
    · refine .inr ⟨by simp, id, by simp, r3, ?_⟩
      rw [List.length_append, List.length_singleton]
      exact set_same r4 _
    · intro i o hn ho
      exact set_other ho (.inl (by rw [beq_eq_false_iff_ne]; intro e; subst e; exact hn ⟨_, rfl⟩)) _
    · rintro i o ⟨n, hn⟩ ho
      injection hn with hn _
      subst hn
      exact ⟨_, rfl⟩
theorem RowV.keep {h h' : Hp} {p : PV} {l : List Rat} (r : RowV h p l) (hs : ∀ id o, Leads p id → hget h id = some o → hget h' id = some o) : RowV h' p l := by
  rcases r with r | ⟨r1, id, r2, r3, r4⟩
  · exact .inl r
  · exact .inr ⟨r1, id, r2, r3, hs id _ ⟨_, r2⟩ r4⟩
theorem RowV.get {h : Hp} {p : PV} {l : List Rat} {id : Id} (r : RowV h p l) (hl : Leads p id) : (id.1 == 16) = false ∧ ∃ o, hget h id = some o := by
  obtain ⟨n, hn⟩ := hl
  rcases r with ⟨_, r⟩ | ⟨r1, id', r2, r3, r4⟩
  · rw [r] at hn; cases hn
  · rw [r2] at hn; injection hn with hn _; subst hn; exact ⟨r3, _, r4⟩
def rowM (rows : List Row) (more : List (List Rat)) (i : Nat) : List Rat := colR rows i ++ more.map (fun c => c.getD i 0)
structure ColH (h : Hp) (W k : Nat) (rows : List Row) (more : List (List Rat)) (cs0 : List PV) (p : PV) (l : List Rat) : Prop where
  m : hget h (16, 0) = some ⟨cs0 ++ p :: List.replicate (W - k - 1) (.t (.sl false [])), 1, W, tRats, false, true⟩
  len : cs0.length = k
  lt : k < W
  old : ∀ (i : Nat) (p' : PV), cs0[i]? = some p' → RowV h p' (rowM rows more i)
  cur : RowV h p l
  dis : ∀ (i : Nat) (p' : PV) (id : Id), cs0[i]? = some p' → Leads p' id → ¬ Leads p id
theorem ColH.load {h : Hp} {W k : Nat} {rows : List Row} {more : List (List Rat)} {cs0 : List PV} {p : PV} {l : List Rat} (c : ColH h W k rows more cs0 p l) : (cs0 ++ p :: List.replicate (W - k - 1) (.t (.sl false [])))[k]? = some p := by
  rw [List.getElem?_append_right (by rw [c.len]; exact Nat.le_refl _), c.len, Nat.sub_self]; rfl
theorem ColH.clen {h : Hp} {W k : Nat} {rows : List Row} {more : List (List Rat)} {cs0 : List PV} {p : PV} {l : List Rat} (c : ColH h W k rows more cs0 p l) : (cs0 ++ p :: List.replicate (W - k - 1) (PV.t (.sl false []))).length = W := by
  have := c.lt; simp [c.len]; omega
theorem ColH.splice {h : Hp} {W k : Nat} {rows : List Row} {more : List (List Rat)} {cs0 : List PV} {p : PV} {l : List Rat} (c : ColH h W k rows more cs0 p l) (p' : PV) : Vm.splice (cs0 ++ p :: List.replicate (W - k - 1) (PV.t (.sl false []))) k [p'] = cs0 ++ p' :: List.replicate (W - k - 1) (PV.t (.sl false [])) := by
  have e := set_splice (cs0 ++ p :: List.replicate (W - k - 1) (PV.t (.sl false []))) k p' (by rw [c.clen]; exact c.lt)
  show _ ++ [p'] ++ _ = _
  rw [List.length_singleton, e, List.set_append_right _ _ (by rw [c.len]; exact Nat.le_refl _), c.len, Nat.sub_self]; rfl
theorem ColH.new {h : Hp} {W k : Nat} {rows : List Row} {more : List (List Rat)} {cs0 : List PV} {p : PV} {l : List Rat} (c : ColH h W k rows more cs0 p l) (s : Nat) (o : Obj) : ColH (hnew h s o) W k rows more cs0 p l :=
  ⟨hget_new_old c.m _, c.len, c.lt, fun i p' hp => (c.old i p' hp).keep fun _ _ _ ho => hget_new_old ho _, c.cur.keep fun _ _ _ ho => hget_new_old ho _, c.dis⟩
theorem ColH.append {mu : Nat → Bool} {h : Hp} {d W k : Nat} {t : TypeId} {rows : List Row} {more : List (List Rat)} {cs0 : List PV} {p : PV} {l : List Rat} (c : ColH h W k rows more cs0 p l) (q : Rat) (hmu : mu d = true) (hd : (d == 16) = false) (hel : elemB Tryz.prog t = some tRat) (hl : l.length ≤ 100000) :
    ∃ p' h', appendPV Tryz.prog mu (some d) t p (.t (.sl true [.agg (ratC q)])) h = some (p', h') ∧ p'.cells = [p'] ∧ p'.one = true ∧ hget h' (16, 0) = some ⟨cs0 ++ p :: List.replicate (W - k - 1) (.t (.sl false [])), 1, W, tRats, false, true⟩ ∧
      ColH (hset h' (16, 0) ⟨cs0 ++ p' :: List.replicate (W - k - 1) (.t (.sl false [])), 1, W, tRats, false, true⟩) W k rows more cs0 p' (l ++ [q]) := by
  obtain ⟨p', h', e1, e2, e3, e4⟩ := append_row (q := q) c.cur hmu hd hel hl
  have e16 : hget h' (16, 0) = some ⟨cs0 ++ p :: List.replicate (W - k - 1) (.t (.sl false [])), 1, W, tRats, false, true⟩ := by
    refine e3 _ _ (fun hl => ?_) c.m
    have := (c.cur.get hl).1
    simp at this
  have hne : ∀ id : Id, (id.1 == 16) = false → (id == (16, 0)) = false := fun id hi => by
    rw [beq_eq_false_iff_ne] at hi ⊢
    intro e; subst e; exact hi rfl
  refine ⟨p', h', e1, e2.one.1, e2.one.2, e16, set_same e16 _, c.len, c.lt, fun i p0 hp => ?_, ?_, fun i p0 id hp hl hl' => ?_⟩
  · refine (c.old i p0 hp).keep fun id o hld ho => ?_
    exact set_other (e3 id o (c.dis i p0 id hp hld) ho) (.inl (hne id ((c.old i p0 hp).get hld).1)) _
  · exact e2.same fun id o hi ho => set_other ho (.inl (hne id hi)) _
  · obtain ⟨_, o, ho⟩ := (c.old i p0 hp).get hl
    exact c.dis i p0 id hp hl (e4 id o hl' ho)
theorem hpK_col {mu : Nat → Bool} {F : Ex → St → Prop} {r : List Item} {s : St} {h : Hp} {d W k : Nat} {t : TypeId} {rows : List Row} {more : List (List Rat)} {cs0 : List PV} {p : PV} {l : List Rat} {q : Rat} (c : ColH h W k rows more cs0 p l) (hmu : mu d = true) (hd : (d == 16) = false) (hel : elemB Tryz.prog t = some tRat) (hl : l.length ≤ 100000)
    (hk : ∀ p' h', p'.cells = [p'] → p'.one = true → hget h' (16, 0) = some ⟨cs0 ++ p :: List.replicate (W - k - 1) (.t (.sl false [])), 1, W, tRats, false, true⟩ → ColH (hset h' (16, 0) ⟨cs0 ++ p' :: List.replicate (W - k - 1) (.t (.sl false [])), 1, W, tRats, false, true⟩) W k rows more cs0 p' (l ++ [q]) → kont Tryz.prog mu F r .normal ⟨upd s.sl d p', h'⟩) :
    hpK Tryz.prog mu F (appendPV Tryz.prog mu (some d) t p (.t (.sl true [.agg (ratC q)])) h) (some d) r s := by
  obtain ⟨p', h', e1, e2, e3, e4, e5⟩ := c.append q hmu hd hel hl
  rw [e1, hpK_some]
  exact hk p' h' e2 e3 e4 e5
end YtihgdplbehempaaGreat
end Go.Vm
end
section
set_option linter.unusedSimpArgs false
set_option maxRecDepth 10000
namespace Go.Vm
open Go Go.Proofs Go.Whole Go.Simplex
namespace YtihgdplbehempaaGreat
open Go.Proofs.Tryz
theorem mapO_off {f : PV → Option Tr} {g : Nat → Tr} : ∀ (cs : List PV) (off : Nat), (∀ (i : Nat) (p : PV), cs[i]? = some p → f p = some (g (off + i))) → mapO f cs = some ((List.range' off cs.length).map g)
  | [], off, _ => rfl
  | p :: cs, off, h => by
    have h0 := h 0 p rfl
    have ih := mapO_off cs (off + 1) (fun i q hq => by
      have := h (i + 1) q (by simpa using hq)
      rw [show off + (i + 1) = off + 1 + i by omega] at this; exact this)
    simp only [mapO, h0, ih, List.length_cons, List.range'_succ, List.map_cons, Nat.add_zero]
def encRs (l : List (List Rat)) : List Tr := l.map fun c => .sl true (c.map encQ)
set_option maxHeartbeats 2000000 in
theorem columns_d {V : Nat} (rnn : Bool) {rows : List Row} (hr : ∀ r ∈ rows, r.coefs.length = V ∧ inI64 r.const ∧ ∀ c ∈ r.coefs, inI64 c) (mnn : Bool) {more : List (List Rat)} (hm : ∀ c ∈ more, c.length = V + 1) (hV : V ≤ 1000) (hn : rows.length + more.length ≤ 10000) :
    DCall Tryz.prog 67 [i64 (V : Nat), .sl rnn (rows.map Row.tr), .sl mnn (encRs more)] (encM (!(rows.isEmpty && more.isEmpty)) (matL V rows more)) := by
  have hw1 : IntKind.i64.wrap ((V : Int) + 1) = ((V + 1 : Nat) : Int) := by rw [wrap_i64 (by omega) (by omega)]; rfl
  obtain ⟨W, hW⟩ : ∃ W, V + 1 = W := ⟨_, rfl⟩
  rw [hW] at hw1
  refine dcall_mk orders Tryz.func67 rfl (by kernel_rfl) (fun d => d == 16 || d == 10 || d == 38 || d == 40 || d == 42 || d == 47 || d == 48 || d == 56 || d == 58 || d == 60 || d == 67 || d == 68) (by kernel_rfl) rfl (fun hs => ?_)
  clear hs
  repeat' (first
    | (with_reducible first | refine sA ?_ ?_ | refine sB ?_ ?_ | refine sC ?_ ?_ | refine sD ?_ ?_ | refine sE ?_ ?_ | refine sF ?_ ?_) <;> intro h
    | simp only [go_sem, *, beq_self_eq_true])
  with_reducible refine hpK_if ?_ ?_
  · exact ⟨by omega, by omega⟩
  repeat' (first
    | (with_reducible first | refine sA ?_ ?_ | refine sB ?_ ?_ | refine sC ?_ ?_ | refine sD ?_ ?_ | refine sE ?_ ?_ | refine sF ?_ ?_) <;> intro h
    | simp only [go_sem, *, beq_self_eq_true, hnext_nil, hget_new0])
  refine loop_range (List.range (W)) (fun k s' => ∃ cs0 : List PV, hget s'.hp (16, 0) = some ⟨cs0 ++ List.replicate (W - k) (.t (.sl false [])), 1, W, tRats, false, true⟩ ∧ cs0.length = k ∧ ∀ (i : Nat) (p : PV), cs0[i]? = some p → RowV s'.hp p (rowM rows more i)) rfl (by rw [List.length_range]; rfl) (by rw [List.length_range]; first | assumption | omega) (by kernel_rfl) (fun _ _ _ _ hj => hj) (fun _ _ _ hj => hj) ?_ (fun k x s' hx hd hk hJ hix hfr G hG => ?_) (fun s' hJ hfr => ?_)
  · refine ⟨[], ?_, rfl, fun i p h => by simp at h⟩
    refine Eq.trans (b := some ⟨List.map PV.t (zrow [.sl false []] W), 1, W, tRats, false, true⟩) rfl ?_
    rw [zrow_one, List.map_replicate]; rfl
  · have c0 := hfr 0 (by kernel_rfl)
    have c1 := hfr 1 (by kernel_rfl)
    have c2 := hfr 2 (by kernel_rfl)
    have c7 := hfr 7 (by kernel_rfl)
    clear hfr
    simp only [go_sem] at c0 c1 c2 c7
    obtain ⟨cs0, h16, hcl, hold⟩ := hJ
    rw [List.length_range] at hk
    have hxk : x = k := by rw [List.getElem?_range hk] at hx; injection hx with hx; exact hx.symm
    subst hxk
    have hC : ColH s'.hp W x rows more cs0 (.t (.sl false [])) [] := by
      refine ⟨?_, hcl, hk, hold, .inl ⟨rfl, rfl⟩, fun i p id _ _ hl => by obtain ⟨n, hn⟩ := hl; cases hn⟩
      rw [h16]
      have : W - x = (W - x - 1) + 1 := by omega
      conv => lhs; rw [this, List.replicate_succ]
    clear hd hx h16
    repeat' (first
      | (with_reducible first | refine sA ?_ ?_ | refine sB ?_ ?_ | refine sC ?_ ?_ | refine sD ?_ ?_ | refine sE ?_ ?_ | refine sF ?_ ?_) <;> intro h
      | simp only [go_sem, *, beq_self_eq_true])
    refine loop_range (List.range (rows.length)) (fun k s' => ∃ p : PV, ColH s'.hp W x rows more cs0 p ((colR rows x).take k)) rfl (by rw [List.length_range]; rfl) (by rw [List.length_range]; first | assumption | omega) (by kernel_rfl) (fun _ _ _ _ hj => hj) (fun _ _ _ hj => hj) ?_ (fun j y u hy hyd hj hJ hjx hfr H hH => ?_) (fun u hJ hfr => ?_)
    · exact ⟨_, by rw [List.take_zero]; exact hC⟩
    · have e0 := hfr 0 (by kernel_rfl)
      have e1 := hfr 1 (by kernel_rfl)
      have e2 := hfr 2 (by kernel_rfl)
      have e7 := hfr 7 (by kernel_rfl)
      have e8 := hfr 8 (by kernel_rfl)
      have e22 := hfr 22 (by kernel_rfl)
      clear hfr
      simp only [go_sem, c0, c1, c2, c7] at e0 e1 e2 e7 e8 e22
      obtain ⟨p, c⟩ := hJ
      rw [List.length_range] at hj
      have hyj : y = j := by rw [List.getElem?_range hj] at hy; injection hy with hy; exact hy.symm
      subst hyj
      clear hy hyd
      obtain ⟨r, hrx, _⟩ := get_of_lt rows y hj
      have hrow : (rows.map Row.tr)[y]? = some r.tr := by rw [List.getElem?_map, hrx]; rfl
      obtain ⟨q1, q2, q3⟩ := hr r (List.mem_of_getElem? hrx)
      have hent : inI64 (entR r x) := by
        rcases Nat.lt_or_ge x V with h | h
        · rw [entR_low q1 h, List.getD_eq_getElem?_getD, List.getElem?_eq_getElem (by omega)]
          exact q3 _ (List.getElem_mem _)
        · have : x = V := by omega
          subst this; rw [entR_top q1]; exact q2
      have w := whole_d (entR r x) hent
      have hcol : (colR rows x)[y]? = some ((entR r x : Int) : Rat) := by unfold colR; rw [List.getElem?_map, hrx]; rfl
      have htk : (colR rows x).take (y + 1) = (colR rows x).take y ++ [((entR r x : Int) : Rat)] := by rw [List.take_add_one, hcol]; rfl
      have c2 := fun o => c.new 10 o
      have l2 := fun o => (c2 o).m
      have hld := c.load
      have hcln := c.clen
      have hlen : ((colR rows x).take y).length ≤ 100000 := by simp; omega
      rcases Nat.lt_or_ge x V with h | h
      · have g1 : decide ((x : Int) < (V : Int)) = true := decide_eq_true (by omega)
        have hcx : r.coefs[x]? = some (entR r x) := by rw [entR_low q1 h, List.getD_eq_getElem?_getD, List.getElem?_eq_getElem (by omega)]; rfl
        generalize entR r x = e at *
        repeat' (first
          | (with_reducible first | refine sA ?_ ?_ | refine sB ?_ ?_ | refine sC ?_ ?_ | refine sD ?_ ?_ | refine sE ?_ ?_ | refine sF ?_ ?_) <;> intro h
          | refine clK_mk (w) rfl ?_
          | simp only [go_sem, *, beq_self_eq_true])
        refine hpK_col (c2 _) rfl rfl (by kernel_rfl) hlen (fun p' h' e2 e3 e4 e5 => ?_)
        have hsp := c.splice p'
        rw [← htk] at e5
        have hxW : x + 1 ≤ W := hk
        clear hlen l2
        repeat' (first
          | (with_reducible first | refine sA ?_ ?_ | refine sB ?_ ?_ | refine sC ?_ ?_ | refine sD ?_ ?_ | refine sE ?_ ?_ | refine sF ?_ ?_) <;> intro h
          | simp only [go_sem, *, beq_self_eq_true])
        exact hH _ ⟨p', e5⟩
      · have g1 : decide ((x : Int) < (V : Int)) = false := decide_eq_false (by omega)
        have hxV : x = V := by omega
        have hcx : r.const = entR r x := by rw [hxV, entR_top q1]
        generalize entR r x = e at *
        clear hxV
        repeat' (first
          | (with_reducible first | refine sA ?_ ?_ | refine sB ?_ ?_ | refine sC ?_ ?_ | refine sD ?_ ?_ | refine sE ?_ ?_ | refine sF ?_ ?_) <;> intro h
          | refine clK_mk (w) rfl ?_
          | simp only [go_sem, *, beq_self_eq_true])
        refine hpK_col (c2 _) rfl rfl (by kernel_rfl) hlen (fun p' h' e2 e3 e4 e5 => ?_)
        have hsp := c.splice p'
        rw [← htk] at e5
        have hxW : x + 1 ≤ W := hk
        clear hlen l2
        repeat' (first
          | (with_reducible first | refine sA ?_ ?_ | refine sB ?_ ?_ | refine sC ?_ ?_ | refine sD ?_ ?_ | refine sE ?_ ?_ | refine sF ?_ ?_) <;> intro h
          | simp only [go_sem, *, beq_self_eq_true])
        exact hH _ ⟨p', e5⟩
    · have e0 := hfr 0 (by kernel_rfl)
      have e1 := hfr 1 (by kernel_rfl)
      have e2 := hfr 2 (by kernel_rfl)
      have e7 := hfr 7 (by kernel_rfl)
      have e8 := hfr 8 (by kernel_rfl)
      clear hfr
      simp only [go_sem, c0, c1, c2, c7] at e0 e1 e2 e7 e8
      obtain ⟨p, c⟩ := hJ
      rw [List.length_range, List.take_of_length_le (by simp [colR])] at c
      have hel : (encRs more).length = more.length := by simp [encRs]
      repeat' (first
        | (with_reducible first | refine sA ?_ ?_ | refine sB ?_ ?_ | refine sC ?_ ?_ | refine sD ?_ ?_ | refine sE ?_ ?_ | refine sF ?_ ?_) <;> intro h
        | simp only [go_sem, *, beq_self_eq_true])
      refine loop_range (List.range (more.length)) (fun k s' => ∃ p : PV, ColH s'.hp W x rows more cs0 p (colR rows x ++ (more.map (fun c => c.getD x 0)).take k)) rfl (by rw [List.length_range]; rfl) (by rw [List.length_range]; first | assumption | omega) (by kernel_rfl) (fun _ _ _ _ hj => hj) (fun _ _ _ hj => hj) ?_ (fun j y u hy hyd hj hJ hjx hfr H hH => ?_) (fun u hJ hfr => ?_)
      · exact ⟨p, by rw [List.take_zero, List.append_nil]; exact c⟩
      · have f7 := e7
        have f8 := e8
        have f50 := hfr 50 (by kernel_rfl)
        have f2 := hfr 7 (by kernel_rfl)
        have f3 := hfr 8 (by kernel_rfl)
        clear hfr
        simp only [go_sem, e7, e8] at f50 f2 f3
        clear e7 e8
        obtain ⟨p, c⟩ := hJ
        rw [List.length_range] at hj
        have hyj : y = j := by rw [List.getElem?_range hj] at hy; injection hy with hy; exact hy.symm
        subst hyj
        clear hy hyd
        obtain ⟨v, hvx, _⟩ := get_of_lt more y hj
        have hvl := hm v (List.mem_of_getElem? hvx)
        have hrow : (encRs more)[y]? = some (.sl true (v.map encQ)) := by unfold encRs; rw [List.getElem?_map, hvx]; rfl
        have hq : v[x]? = some (v.getD x 0) := by rw [List.getD_eq_getElem?_getD, List.getElem?_eq_getElem (by omega)]; rfl
        have hq2 : (v.map encQ)[x]? = some (encQ (v.getD x 0)) := by rw [List.getElem?_map, hq]; rfl
        have hcol : (more.map (fun c => c.getD x 0))[y]? = some (v.getD x 0) := by rw [List.getElem?_map, hvx]; rfl
        have htk : colR rows x ++ (more.map (fun c => c.getD x 0)).take (y + 1) = (colR rows x ++ (more.map (fun c => c.getD x 0)).take y) ++ [v.getD x 0] := by rw [List.take_add_one, hcol, List.append_assoc]; rfl
        have l2 := c.m
        have hld := c.load
        have hcln := c.clen
        have hxW : x + 1 ≤ W := hk
        have hlen : (colR rows x ++ (more.map (fun c => c.getD x 0)).take y).length ≤ 100000 := by simp [colR]; omega
        generalize v.getD x 0 = q at *
        repeat' (first
          | (with_reducible first | refine sA ?_ ?_ | refine sB ?_ ?_ | refine sC ?_ ?_ | refine sD ?_ ?_ | refine sE ?_ ?_ | refine sF ?_ ?_) <;> intro h
          | simp only [go_sem, *, beq_self_eq_true])
        refine hpK_col c rfl rfl (by kernel_rfl) hlen (fun p' h' e2 e3 e4 e5 => ?_)
        have hsp := c.splice p'
        rw [← htk] at e5
        clear hlen l2
        repeat' (first
          | (with_reducible first | refine sA ?_ ?_ | refine sB ?_ ?_ | refine sC ?_ ?_ | refine sD ?_ ?_ | refine sE ?_ ?_ | refine sF ?_ ?_) <;> intro h
          | simp only [go_sem, *, beq_self_eq_true])
        exact hH _ ⟨p', e5⟩
      · obtain ⟨p, c⟩ := hJ
        rw [List.length_range, List.take_of_length_le (by simp)] at c
        repeat' (first
          | (with_reducible first | refine sA ?_ ?_ | refine sB ?_ ?_ | refine sC ?_ ?_ | refine sD ?_ ?_ | refine sE ?_ ?_ | refine sF ?_ ?_) <;> intro h
          | simp only [go_sem, *, beq_self_eq_true])
        refine hG _ ⟨cs0 ++ [p], ?_, by simp [hcl], fun i p' hp => ?_⟩
        · have := c.m
          rw [this]
          congr 2
          rw [List.append_assoc]
          rfl
        · rw [List.getElem?_append] at hp
          split at hp
          · exact c.old i p' hp
          · rename_i hi
            rw [c.len] at hi hp
            cases hix : i - x with
            | zero =>
              rw [hix] at hp
              simp at hp
              subst hp
              have : i = x := by omega
              subst this
              exact c.cur
            | succ n => rw [hix] at hp; simp at hp
  · have c7 := hfr 7 (by kernel_rfl)
    clear hfr
    simp only [go_sem] at c7
    obtain ⟨cs0, h16, hcl, hold⟩ := hJ
    rw [List.length_range] at h16 hcl
    have hdep : toTr s'.hp dep (.rf (16, 0) W) = some (encM (!(rows.isEmpty && more.isEmpty)) (matL V rows more)) := by
      show toTr s'.hp (5 + 1) _ = _
      rw [toTr_rf', h16]
      simp only [Nat.sub_self, List.replicate_zero, List.append_nil, if_true]
      have := mapO_off (f := toTr s'.hp 5) (g := fun i => Tr.sl (!(rows.isEmpty && more.isEmpty)) ((rowM rows more i).map encQ)) cs0 0 (fun i p hp => by
        have h1 := (hold i p hp).toTr 4
        rw [Nat.zero_add, h1]
        congr 2
        unfold rowM colR
        cases rows <;> cases more <;> simp)
      rw [this, hcl]
      show some (Tr.sl true (elems false 1 W _)) = _
      unfold elems encM matL
      rw [← List.range_eq_range', hW, List.map_map]
      rfl
    repeat' (first
      | (with_reducible first | refine sA ?_ ?_ | refine sB ?_ ?_ | refine sC ?_ ?_ | refine sD ?_ ?_ | refine sE ?_ ?_ | refine sF ?_ ?_) <;> intro h
      | simp only [go_sem, *])
end YtihgdplbehempaaGreat
end Go.Vm
end
section
set_option linter.unusedSimpArgs false
set_option maxRecDepth 10000
namespace Go.Vm
open Go Go.Proofs Go.Whole Go.Simplex
namespace YtihgdplbehempaaGreat
open Go.Proofs.Tryz
def Over (l : List Rat) (N : Nat) : Prop := ∃ d : Int, d ≠ 0 ∧ d.natAbs ≤ N ∧ ∀ x ∈ l, IntB ((d : Rat) * x) N
theorem Fit.fits {N : Nat} {z : Int} (hN : Fit N) (hz : z.natAbs ≤ N) : fits z := by
  have h := hN.le
  exact Nat.le_trans (digs_length_le (k := 50000) (Nat.lt_of_le_of_lt hz h)) (by decide)
theorem Over.num {l : List Rat} {N : Nat} (h : Over l N) {x : Rat} (hx : x ∈ l) : x.num.natAbs ≤ N := by
  obtain ⟨d, hd, _, hI⟩ := h
  exact (intB_low hd (hI x hx)).2
theorem Over.den {l : List Rat} {N : Nat} (h : Over l N) {x : Rat} (hx : x ∈ l) : x.den ≤ N := by
  obtain ⟨d, hd, hdN, hI⟩ := h
  exact Nat.le_trans (Nat.le_of_dvd (by omega) (intB_low hd (hI x hx)).1) hdN
theorem Over.lcm {l : List Rat} {N : Nat} (h : Over l N) : lcmD l ≤ N := by
  obtain ⟨d, hd, hdN, hI⟩ := h
  refine Nat.le_trans (Nat.le_of_dvd (by omega) (lcmN_dvd _ _ d.natAbs (Nat.one_dvd _) fun y hy => ?_)) hdN
  obtain ⟨q, hq, rfl⟩ := List.mem_map.1 hy
  exact (intB_low hd (hI q hq)).1
theorem Over.ints {l : List Rat} {N : Nat} (h : Over l N) : ∀ z ∈ intsZ l, z.natAbs ≤ N := by
  obtain ⟨d, hd, hdN, hI⟩ := h
  exact intZ_small hd hI
theorem ok_int2 (b : Bool) (z : Int) : ∀ x ∈ [encI b z], elemOK true 2 x := by
  intro x hx; rw [List.mem_singleton.1 hx]; exact ok_encI b z
theorem own_reach {h : Hp} {d k : Nat} {e : TypeId} {esz : Nat} {ag nn : Bool} {v : PV} {l : List Tr} (ho : Own h d e esz ag v nn l) {id : Id} (hid : (id.1 == d) = false) : ((([v] : List PV).flatMap (reach h (k + 1))).contains id) = false := by
  rcases ho.is with ⟨_, _, rfl⟩ | ⟨_, i, h1, rfl, h3⟩
  · rfl
  · simp only [List.flatMap_cons, List.flatMap_nil, List.append_nil]
    rw [reach_row k h3]
    simp only [List.contains_cons, List.contains_nil, Bool.or_false]
    rw [beq_eq_false_iff_ne] at hid ⊢
    intro e; subst e; exact hid h1
theorem integersW_d (nn : Bool) {l : List Rat} {N : Nat} (hN : Fit N) (ho : Over l N) (hlen : l.length ≤ 100000) :
    DCall Tryz.prog 143 [.sl nn (l.map encQ)] (.tup [.sl (!l.isEmpty) ((intsZ l).map (encI true)), encI true ((lcmD l : Nat) : Int)]) := by
  have hL : DCall Tryz.prog 213 [.sl (!(l.map Rat.den).isEmpty) ((l.map Rat.den).map natI)] (encI true ((lcmD l : Nat) : Int)) := by
    obtain ⟨d, hd, hdN, hI⟩ := ho
    refine lcm_d _ (l.map Rat.den) d.natAbs (by omega) (hN.fits (by simpa using hdN)) (fun x hx => ?_) (by simp; omega)
    obtain ⟨q, hq, rfl⟩ := List.mem_map.1 hx
    exact ⟨q.den_pos, (intB_low hd (hI q hq)).1⟩
  refine dcall_mk orders Tryz.func143 rfl (by kernel_rfl) (fun d => d == 3 || d == 6 || d == 7 || d == 10 || d == 11 || d == 12 || d == 23 || d == 46 || d == 40) (by kernel_rfl) rfl (fun hs => ?_)
  clear hs
  repeat' (first
    | (with_reducible first | refine sA ?_ ?_ | refine sB ?_ ?_ | refine sC ?_ ?_ | refine sD ?_ ?_ | refine sE ?_ ?_ | refine sF ?_ ?_) <;> intro h
    | simp only [go_sem, *, beq_self_eq_true, hnext_nil, hget_new0])
  refine loop_range l (fun k s' => ∃ acc : List Nat, Own s'.hp 23 tWInt 2 true (s'.sl 4) (!acc.isEmpty) (acc.map natI) ∧ acc.length = k ∧ l.map Rat.den = acc ++ (l.drop k).map Rat.den ∧ hget s'.hp (3, 0) = some ⟨[.t (.sl false []), .t (.bool false)], 2, 1, tWInt, true, true⟩) rfl rfl (by first | assumption | omega) (by kernel_rfl) (fun _ _ _ _ hj => hj) (fun _ _ _ hj => hj) ?_ (fun k x s' hx hd hk hJ hix hfr G hG => ?_) (fun s' hJ hfr => ?_)
  · exact ⟨[], Own.nil, rfl, rfl, rfl⟩
  · have c0 := hfr 0 (by kernel_rfl)
    have c3 := hfr 3 (by kernel_rfl)
    have c13 := hfr 13 (by kernel_rfl)
    clear hfr
    simp only [go_sem] at c0 c3 c13
    obtain ⟨acc, hown, hal, hJ, h3⟩ := hJ
    change _ = PV.ad (3, 0) 1 0 at c3
    rw [hd, List.map_cons] at hJ
    have w := den_d x
    have hsz : (ratC x).length = 6 := ratC_length _
    clear hd
    repeat' (first
      | (with_reducible first | refine sA ?_ ?_ | refine sB ?_ ?_ | refine sC ?_ ?_ | refine sD ?_ ?_ | refine sE ?_ ?_ | refine sF ?_ ?_) <;> intro h
      | refine clK_mk (w) rfl ?_
      | simp only [go_sem, *])
    refine hpK_append (hown.frame (by simp only [go_sem])) rfl (by kernel_rfl) (by kernel_rfl) (by kernel_rfl) (by kernel_rfl) rfl (by kernel_rfl) (ok_int2 _ _) (by simp; omega) (fun v' h' ho hf => ?_)
    repeat' (first
      | (with_reducible first | refine sA ?_ ?_ | refine sB ?_ ?_ | refine sC ?_ ?_ | refine sD ?_ ?_ | refine sE ?_ ?_ | refine sF ?_ ?_) <;> intro h
      | simp only [go_sem, *])
    refine hG _ ⟨acc ++ [x.den], ho.snoc, by simp [hal], by rw [hJ, List.append_assoc]; rfl, ?_⟩
    exact (hget_site (hf 3 rfl)).trans (hget_new_old h3 _)
  · have c0 := hfr 0 (by kernel_rfl)
    have c3 := hfr 3 (by kernel_rfl)
    clear hfr
    simp only [go_sem] at c0 c3
    obtain ⟨acc, hown, hal, hJ, h3⟩ := hJ
    change _ = PV.ad (3, 0) 1 0 at c3
    rw [List.drop_length, List.map_nil, List.append_nil] at hJ
    rw [hJ] at hL
    have hdep := hown.dep
    have hn3 := own_reach (k := 5) hown (id := (3, 0)) rfl
    have h3f := frz_other h3 hn3
    repeat' (first
      | (with_reducible first | refine sA ?_ ?_ | refine sB ?_ ?_ | refine sC ?_ ?_ | refine sD ?_ ?_ | refine sE ?_ ?_ | refine sF ?_ ?_) <;> intro h
      | simp only [go_sem, *])
    refine clK_fz hL (by simp only [go_sem, hdep]) rfl ?_
    clear hdep hn3 hown hal hJ hL
    have h3g : hget (frz s'.hp (([s'.sl 4] : List PV).flatMap (reach s'.hp dep))) (3, 0) = some ⟨[.t (.sl false []), .t (.bool false)], 2, 1, tWInt, true, true⟩ := h3f
    clear h3f h3
    generalize frz _ _ = HF at *
    have hne7 := ne_hnext (s := 7) h3g
    repeat' (first
      | (with_reducible first | refine sA ?_ ?_ | refine sB ?_ ?_ | refine sC ?_ ?_ | refine sD ?_ ?_ | refine sE ?_ ?_ | refine sF ?_ ?_) <;> intro h
      | simp only [go_sem, *])
    refine loop_range (List.range (l.length)) (fun k s' => ∃ acc : List Int, Own s'.hp 46 tWInt 2 true (s'.sl 8) (!acc.isEmpty) (acc.map (encI true)) ∧ acc.length = k ∧ intsZ l = acc ++ (l.drop k).map (intZ (lcmD l)) ∧ hget s'.hp (3, 0) = some ⟨[.t (.sl false []), .t (.bool false)], 2, 1, tWInt, true, true⟩ ∧ hget s'.hp (hnext HF 7) = some ⟨(intC true ((lcmD l : Nat) : Int)).map .t, 2, 1, tWInt, true, true⟩) rfl (by rw [List.length_range]; rfl) (by rw [List.length_range]; first | assumption | omega) (by kernel_rfl) (fun _ _ _ _ hj => hj) (fun _ _ _ hj => hj) ?_ (fun j y u hy hyd hj hJ hjx hfr H hH => ?_) (fun u hJ hfr => ?_)
    · exact ⟨[], Own.nil, rfl, rfl, hget_new_old h3g _, hget_new _ _⟩
    · have e0 := hfr 0 (by kernel_rfl)
      have e3 := hfr 3 (by kernel_rfl)
      have e7 := hfr 7 (by kernel_rfl)
      have e27 := hfr 27 (by kernel_rfl)
      clear hfr
      simp only [go_sem, c0, c3] at e0 e3 e7 e27
      obtain ⟨acc, hown, hal, hJ, h3, h7⟩ := hJ
      rw [List.length_range] at hj
      have hyj : y = j := by rw [List.getElem?_range hj] at hy; injection hy with hy; exact hy.symm
      subst hyj
      clear hy hyd
      obtain ⟨x, hx, hd⟩ := get_of_lt l y hj
      have hxm := List.mem_of_getElem? hx
      have hx2 : (l.map encQ)[y]? = some (encQ x) := by rw [List.getElem?_map, hx]; rfl
      rw [hd, List.map_cons] at hJ
      have w := den_d x
      have w1 := num_d x
      have fx : fits x.num := hN.fits (ho.num hxm)
      have fL : fits ((lcmD l : Nat) : Int) := hN.fits (by simpa using ho.lcm)
      have fd : fits ((x.den : Nat) : Int) := hN.fits (by simpa using ho.den hxm)
      have fq : fits ((lcmD l / x.den : Nat) : Int) := hN.fits (by rw [Int.natAbs_natCast]; exact Nat.le_trans (Nat.div_le_self _ _) ho.lcm)
      have w2 := div_d true true ((lcmD l : Nat) : Int) ((x.den : Nat) : Int) fL fd (by have := x.den_pos; omega)
      rw [show ((lcmD l : Nat) : Int).tdiv ((x.den : Nat) : Int) = ((lcmD l / x.den : Nat) : Int) from rfl] at w2
      have w3 := mul_d true true x.num ((lcmD l / x.den : Nat) : Int) fx fq
      rw [show x.num * ((lcmD l / x.den : Nat) : Int) = intZ (lcmD l) x from rfl] at w3
      have hsz : (ratC x).length = 6 := ratC_length _
      generalize intZ (lcmD l) x = z at *
      generalize ((lcmD l : Nat) : Int).tmod ((x.den : Nat) : Int) = rr at *
      generalize ((lcmD l / x.den : Nat) : Int) = dd at *
      clear hd fx fL fd fq
      repeat' (first
        | (with_reducible first | refine sA ?_ ?_ | refine sB ?_ ?_ | refine sC ?_ ?_ | refine sD ?_ ?_ | refine sE ?_ ?_ | refine sF ?_ ?_) <;> intro h
        | refine clK_mk (w) rfl ?_
        | refine clK_mk (w1) rfl ?_
        | refine clK_mk (w2) rfl ?_
        | refine clK_mk (w3) rfl ?_
        | simp only [go_sem, *])
      refine hpK_append (hown.frame (by simp only [go_sem])) rfl (by kernel_rfl) (by kernel_rfl) (by kernel_rfl) (by kernel_rfl) rfl (by kernel_rfl) (ok_int2 _ _) (by simp; omega) (fun v' h' ho hf => ?_)
      repeat' (first
        | (with_reducible first | refine sA ?_ ?_ | refine sB ?_ ?_ | refine sC ?_ ?_ | refine sD ?_ ?_ | refine sE ?_ ?_ | refine sF ?_ ?_) <;> intro h
        | simp only [go_sem, *])
      refine hH _ ⟨acc ++ [z], ho.snoc, by simp [hal], by rw [hJ, List.append_assoc]; rfl, ?_, ?_⟩
      · exact (hget_site (hf 3 rfl)).trans (by simp only [go_sem, h3])
      · exact (hget_site (hf 7 rfl)).trans (by simp only [go_sem, h7])
    · have e0 := hfr 0 (by kernel_rfl)
      have e3 := hfr 3 (by kernel_rfl)
      have e7 := hfr 7 (by kernel_rfl)
      clear hfr
      simp only [go_sem, c0, c3] at e0 e3 e7
      obtain ⟨acc, hown, hal, hJ, h3, h7⟩ := hJ
      rw [List.length_range] at hal hJ
      rw [List.drop_length, List.map_nil, List.append_nil] at hJ
      have he : (!l.isEmpty) = (!acc.isEmpty) := by
        cases l <;> cases acc <;> simp_all
      rw [he, hJ]
      have hdep := fun o => (hown.frame (h' := hset u.hp (3, 0) o) (hset_site o rfl)).dep
      clear hN ho hJ hal he
      repeat' (first
        | (with_reducible first | refine sA ?_ ?_ | refine sB ?_ ?_ | refine sC ?_ ?_ | refine sD ?_ ?_ | refine sE ?_ ?_ | refine sF ?_ ?_) <;> intro h
        | simp only [go_sem, *])
abbrev tU64x : TypeId := 38
theorem ok_u64 (z : Int) : ∀ x ∈ [Tr.int .u64 z], elemOK false 1 x := ok_int _ _
theorem integers_d (nn : Bool) {l : List Rat} {N : Nat} (hN : Fit N) (ho : Over l N) (hlen : l.length ≤ 100000) (hpos : ∀ x ∈ l, 0 ≤ x) :
    DCall Tryz.prog 69 [.sl nn (l.map encQ)] (match multsOf l with | some ms => .tup [.sl (!l.isEmpty) (ms.map u64T), .bool true] | none => .tup [.sl false [], .bool false]) := by
  have w := integersW_d nn hN ho hlen
  have hz0 : ∀ z ∈ intsZ l, 0 ≤ z := fun z hz => by
    obtain ⟨x, hx, rfl⟩ := List.mem_map.1 hz
    exact intZ_nonneg (hpos x hx)
  have hlz : l.length = (intsZ l).length := by simp [intsZ]
  have hem : (!l.isEmpty) = !(intsZ l).isEmpty := by
    cases l <;> simp [intsZ]
  have hmo : multsOf l = if (intsZ l).all (fun z => decide (z.natAbs ≤ maxV)) then some ((intsZ l).map Int.toNat) else none := rfl
  rw [hmo, hem]
  rw [hem] at w
  clear hmo hem ho hpos
  generalize intsZ l = zs at *
  refine dcall_mk orders Tryz.func69 rfl (by kernel_rfl) (fun d => d == 5 || d == 8 || d == 33) (by kernel_rfl) rfl (fun hs => ?_)
  clear hs
  repeat' (first
    | (with_reducible first | refine sA ?_ ?_ | refine sB ?_ ?_ | refine sC ?_ ?_ | refine sD ?_ ?_ | refine sE ?_ ?_ | refine sF ?_ ?_) <;> intro h
    | refine clK_mk (w) rfl ?_
    | simp only [go_sem, *, beq_self_eq_true, hnext_nil, hget_new0])
  refine loop_range (List.range (zs.length)) (fun k s' => ∃ acc : List Int, Own s'.hp 33 tU64x 1 false (s'.sl 6) (!acc.isEmpty) (acc.map fun z : Int => u64T z.toNat) ∧ acc.length = k ∧ acc ++ zs.drop k = zs ∧ (acc.all fun z => decide (z.natAbs ≤ maxV)) = true) rfl (by rw [List.length_range]; rfl) (by rw [List.length_range]; first | assumption | omega) (by kernel_rfl) (fun _ _ _ _ hj => hj) (fun _ _ _ hj => hj) ?_ (fun j y u hy hyd hj hJ hjx hfr H hH => ?_) (fun u hJ hfr => ?_)
  · exact ⟨[], Own.nil, rfl, rfl, rfl⟩
  · have e0 := hfr 0 (by kernel_rfl)
    have e4 := hfr 4 (by kernel_rfl)
    have e16 := hfr 16 (by kernel_rfl)
    clear hfr
    simp only [go_sem] at e0 e4 e16
    obtain ⟨acc, hown, hal, hJ, hall⟩ := hJ
    rw [List.length_range] at hj
    have hyj : y = j := by rw [List.getElem?_range hj] at hy; injection hy with hy; exact hy.symm
    subst hyj
    clear hy hyd
    obtain ⟨z, hz, hd⟩ := get_of_lt zs y hj
    have hz2 : (zs.map (encI true))[y]? = some (encI true z) := by rw [List.getElem?_map, hz]; rfl
    rw [hd] at hJ
    have hzn := hz0 z (List.mem_of_getElem? hz)
    have w1 : DCall Tryz.prog 144 [encI true z, i64 4611686018427387904] (.tup [i64 (if z.natAbs ≤ 4611686018427387904 then z else 0), .bool (decide (z.natAbs ≤ 4611686018427387904))]) := wsmall_d true z 4611686018427387904 (Nat.le_refl _)
    clear hd
    by_cases hzs : z.natAbs ≤ 4611686018427387904
    · rw [if_pos hzs, decide_eq_true hzs] at w1
      have hcv : IntKind.u64.wrap z = ((z.toNat : Nat) : Int) := by
        rw [wrap_u64_pos (by omega) hzn]; omega
      have hall2 : ((acc ++ [z]).all fun z => decide (z.natAbs ≤ maxV)) = true := by
        rw [List.all_append, hall]; simpa using hzs
      clear hzs hzn hz0 hall
      repeat' (first
        | (with_reducible first | refine sA ?_ ?_ | refine sB ?_ ?_ | refine sC ?_ ?_ | refine sD ?_ ?_ | refine sE ?_ ?_ | refine sF ?_ ?_) <;> intro h
        | refine clK_mk (w1) rfl ?_
        | simp only [go_sem, *])
      refine hpK_append (hown.frame (by simp only [go_sem])) rfl (by kernel_rfl) (by kernel_rfl) (by kernel_rfl) (by kernel_rfl) rfl (by kernel_rfl) (ok_u64 _) (by simp; omega) (fun v' h' ho hf => ?_)
      repeat' (first
        | (with_reducible first | refine sA ?_ ?_ | refine sB ?_ ?_ | refine sC ?_ ?_ | refine sD ?_ ?_ | refine sE ?_ ?_ | refine sF ?_ ?_) <;> intro h
        | simp only [go_sem, *])
      refine hH _ ⟨acc ++ [z], ho.snoc, by simp [hal], by rw [List.append_assoc]; exact hJ, hall2⟩
    · rw [if_neg hzs, decide_eq_false hzs] at w1
      have hno : (zs.all fun z => decide (z.natAbs ≤ maxV)) = false := by
        rw [Bool.eq_false_iff]
        intro h
        exact hzs (by simpa using List.all_eq_true.1 h z (List.mem_of_getElem? hz))
      simp only [hno, Bool.false_eq_true, if_false]
      clear hzs hzn hz0 hall hno
      repeat' (first
        | (with_reducible first | refine sA ?_ ?_ | refine sB ?_ ?_ | refine sC ?_ ?_ | refine sD ?_ ?_ | refine sE ?_ ?_ | refine sF ?_ ?_) <;> intro h
        | refine clK_mk (w1) rfl ?_
        | simp only [go_sem, *])
  · skip
    obtain ⟨acc, hown, hal, hJ, hall⟩ := hJ
    rw [List.length_range, List.drop_length, List.append_nil] at hJ
    subst hJ
    rw [if_pos hall]
    have hdep := hown.dep
    rw [show List.map (fun z : Int => u64T z.toNat) acc = List.map u64T (List.map Int.toNat acc) by rw [List.map_map]; rfl] at hdep
    clear hall hz0 hal
    repeat' (first
      | (with_reducible first | refine sA ?_ ?_ | refine sB ?_ ?_ | refine sC ?_ ?_ | refine sD ?_ ?_ | refine sE ?_ ?_ | refine sF ?_ ?_) <;> intro h
      | simp only [go_sem, *])
end YtihgdplbehempaaGreat
end Go.Vm
end
section
set_option linter.unusedSimpArgs false
set_option maxRecDepth 10000
namespace Go.Vm
open Go Go.Proofs Go.Whole Go.Simplex
namespace YtihgdplbehempaaGreat
open Go.Proofs.Tryz
def rvT (q : Rat) : Tr := .agg [i64 q.num, i64 ((q.den : Nat) : Int)]
theorem ok_rvT (q : Rat) : elemOK true 2 (rvT q) := ⟨fun _ => rfl, (fun h => nomatch h), rfl⟩
abbrev tARat : TypeId := 137
def pointT (o : Option (List Rat)) : Tr := match o with | some p => .tup [.sl true (p.map rvT), .bool true] | none => .tup [.sl false [], .bool false]
theorem point_s (nn : Bool) {l : List Rat} {b : Rat} {N : Nat} (hN : Fit N) (hl : ∀ x ∈ l, FB x N N) (hb : FB b N N) (h0 : 0 < b) (hlen : l.length ≤ 100000) :
    DCall Tryz.prog 70 [.sl nn (l.map encQ), encQ b] (pointT (pointOf l b)) := by
  have hb0 : b ≠ 0 := fun h => by rw [h] at h0; exact absurd h0 (by decide)
  have wi := qinv_d b (hb.q1 hN) hb0
  have hbi := hb.inv h0
  refine dcall_mk orders Tryz.func70 rfl (by kernel_rfl) (fun d => d == 8 || d == 15) (by kernel_rfl) rfl (fun hs => ?_)
  clear hs
  repeat' (first
    | (with_reducible first | refine sA ?_ ?_ | refine sB ?_ ?_ | refine sC ?_ ?_ | refine sD ?_ ?_ | refine sE ?_ ?_ | refine sF ?_ ?_) <;> intro h
    | simp only [go_sem, *, beq_self_eq_true, hnext_nil, hget_new0])
  with_reducible refine hpK_if ?_ ?_
  · exact ⟨by omega, by omega⟩
  repeat' (first
    | (with_reducible first | refine sA ?_ ?_ | refine sB ?_ ?_ | refine sC ?_ ?_ | refine sD ?_ ?_ | refine sE ?_ ?_ | refine sF ?_ ?_) <;> intro h
    | simp only [go_sem, *, beq_self_eq_true, hnext_nil, hget_new0])
  refine loop_range (List.range (l.length)) (fun k s' => ∃ cur : List Tr, hget s'.hp (15, 0) = some ⟨(flat cur).map .t, 2, l.length, tARat, true, true⟩ ∧ cur.length = l.length ∧ (∀ z ∈ cur, elemOK true 2 z) ∧ cur.take k = ((l.map (· * b⁻¹)).take k).map rvT ∧ ((l.map (· * b⁻¹)).take k).all withinQ = true) rfl (by rw [List.length_range]; rfl) (by rw [List.length_range]; first | assumption | omega) (by kernel_rfl) (fun _ _ _ _ hj => hj) (fun _ _ _ hj => hj) ?_ (fun j y u hy hyd hj hJ hjx hfr H hH => ?_) (fun u hJ hfr => ?_)
  · refine ⟨List.replicate l.length (.agg [i64 0, i64 0]), ?_, by simp, fun z hz => by rw [(List.mem_replicate.1 hz).2]; exact ⟨fun _ => rfl, (fun h => nomatch h), rfl⟩, rfl, rfl⟩
    rw [← zrow_flat]; rfl
  · have e3 := hfr 3 (by kernel_rfl)
    have e6 := hfr 6 (by kernel_rfl)
    have e16 := hfr 16 (by kernel_rfl)
    clear hfr
    simp only [go_sem] at e3 e6 e16
    obtain ⟨cur, g, hcul, hok, htk, hall⟩ := hJ
    rw [List.length_range] at hj
    have hyj : y = j := by rw [List.getElem?_range hj] at hy; injection hy with hy; exact hy.symm
    subst hyj
    clear hy hyd
    obtain ⟨x, hx, _⟩ := get_of_lt l y hj
    have hx2 : (l.map encQ)[y]? = some (encQ x) := by rw [List.getElem?_map, hx]; rfl
    have hxf := hl x (List.mem_of_getElem? hx)
    have wm := qmul_d x b⁻¹ (hxf.q1 hN) (hbi.q1 hN)
    have hmx : (l.map (· * b⁻¹))[y]? = some (x * b⁻¹) := by rw [List.getElem?_map, hx]; rfl
    have w1 := num_d (x * b⁻¹)
    have w2 := den_d (x * b⁻¹)
    have w3 : DCall Tryz.prog 144 [encI true (x * b⁻¹).num, i64 4611686018427387904] (.tup [i64 (if (x * b⁻¹).num.natAbs ≤ 4611686018427387904 then (x * b⁻¹).num else 0), .bool (decide ((x * b⁻¹).num.natAbs ≤ 4611686018427387904))]) := wsmall_d true _ 4611686018427387904 (Nat.le_refl _)
    have w4 : DCall Tryz.prog 144 [encI true (((x * b⁻¹).den : Nat) : Int), i64 4611686018427387904] (.tup [i64 (if (((x * b⁻¹).den : Nat) : Int).natAbs ≤ 4611686018427387904 then (((x * b⁻¹).den : Nat) : Int) else 0), .bool (decide ((((x * b⁻¹).den : Nat) : Int).natAbs ≤ 4611686018427387904))]) := wsmall_d true _ 4611686018427387904 (Nat.le_refl _)
    rw [Int.natAbs_natCast] at w4
    have hsz : (ratC x).length = 6 := ratC_length _
    have hsz2 : (ratC (x * b⁻¹)).length = 6 := ratC_length _
    have hdp : List.drop 6 (List.map PV.t (ratC x)) = [] := List.drop_of_length_le (by rw [List.length_map, ratC_length]; exact Nat.le_refl _)
    have hwq : withinQ (x * b⁻¹) = (decide ((x * b⁻¹).num.natAbs ≤ 4611686018427387904) && decide ((x * b⁻¹).den ≤ 4611686018427387904)) := rfl
    have hno : withinQ (x * b⁻¹) = false → pointOf l b = none := fun h => by
      unfold pointOf
      rw [if_neg]
      intro ha
      have := List.all_eq_true.1 ha _ (List.mem_of_getElem? hmx)
      rw [h] at this; cases this
    obtain ⟨z, hz, _⟩ := get_of_lt cur y (by omega)
    have he2 : ∀ z ∈ cur, z.cells.length = 2 := fun z hz => (hok z hz).2.2
    have hspl : splice (List.map PV.t (flat cur)) (y * 2) [.t (i64 (x * b⁻¹).num), .t (i64 (((x * b⁻¹).den : Nat) : Int))] = List.map PV.t (flat (cur.set y (rvT (x * b⁻¹)))) := flat_splice he2 (x := z) (y := rvT (x * b⁻¹)) hz rfl
    have hfl2 : (flat cur).length = l.length * 2 := by rw [flat_length _ 2 he2, hcul]
    have hy2 : y * 2 + 2 ≤ l.length * 2 := by omega
    have hset : (cur.set y (rvT (x * b⁻¹))).take (y + 1) = ((l.map (· * b⁻¹)).take (y + 1)).map rvT := by
      rw [take_set_succ _ _ _ (by omega), htk, List.take_add_one, List.map_append, hmx]; rfl
    have hok2 : ∀ w ∈ cur.set y (rvT (x * b⁻¹)), elemOK true 2 w := fun w hw => by
      rcases List.mem_or_eq_of_mem_set hw with hw | rfl
      · exact hok w hw
      · exact ok_rvT _
    have hall2 : withinQ (x * b⁻¹) = true → ((l.map (· * b⁻¹)).take (y + 1)).all withinQ = true := fun h => by
      rw [List.take_add_one, List.all_append, hall, hmx]; simpa using h
    clear hxf hall
    by_cases hw1 : (x * b⁻¹).num.natAbs ≤ 4611686018427387904
    · rw [if_pos hw1, decide_eq_true hw1] at w3
      by_cases hw2 : (x * b⁻¹).den ≤ 4611686018427387904
      · rw [if_pos hw2, decide_eq_true hw2] at w4
        have hal3 := hall2 (by rw [hwq, decide_eq_true hw1, decide_eq_true hw2]; rfl)
        clear hw1 hw2 hwq hno hall2
        generalize x * b⁻¹ = q at *
        repeat' (first
          | (with_reducible first | refine sA ?_ ?_ | refine sB ?_ ?_ | refine sC ?_ ?_ | refine sD ?_ ?_ | refine sE ?_ ?_ | refine sF ?_ ?_) <;> intro h
          | refine clK_mk (wi) rfl ?_
          | refine clK_mk (wm) rfl ?_
          | refine clK_mk (w1) rfl ?_
          | refine clK_mk (w2) rfl ?_
          | refine clK_mk (w3) rfl ?_
          | refine clK_mk (w4) rfl ?_
          | simp only [go_sem, *])
        refine hH _ ⟨cur.set y (rvT q), ?_, by simp [hcul], hok2, hset, hal3⟩
        exact set_same g _
      · rw [if_neg hw2, decide_eq_false hw2] at w4
        have hn := hno (by rw [hwq, decide_eq_false hw2, Bool.and_false])
        rw [hn]
        clear hw1 hw2 hwq hno hall2 hspl hset
        generalize x * b⁻¹ = q at *
        repeat' (first
          | (with_reducible first | refine sA ?_ ?_ | refine sB ?_ ?_ | refine sC ?_ ?_ | refine sD ?_ ?_ | refine sE ?_ ?_ | refine sF ?_ ?_) <;> intro h
          | refine clK_mk (wi) rfl ?_
          | refine clK_mk (wm) rfl ?_
          | refine clK_mk (w1) rfl ?_
          | refine clK_mk (w2) rfl ?_
          | refine clK_mk (w3) rfl ?_
          | refine clK_mk (w4) rfl ?_
          | simp only [go_sem, *])
        rfl
    · rw [if_neg hw1, decide_eq_false hw1] at w3
      have hn := hno (by rw [hwq, decide_eq_false hw1, Bool.false_and])
      rw [hn]
      clear hw1 hwq hno hall2 hspl hset
      generalize x * b⁻¹ = q at *
      generalize (if q.den ≤ 4611686018427387904 then ((q.den : Nat) : Int) else 0) = dd at *
      generalize decide (q.den ≤ 4611686018427387904) = bb at *
      repeat' (first
        | (with_reducible first | refine sA ?_ ?_ | refine sB ?_ ?_ | refine sC ?_ ?_ | refine sD ?_ ?_ | refine sE ?_ ?_ | refine sF ?_ ?_) <;> intro h
        | refine clK_mk (wi) rfl ?_
        | refine clK_mk (wm) rfl ?_
        | refine clK_mk (w1) rfl ?_
        | refine clK_mk (w2) rfl ?_
        | refine clK_mk (w3) rfl ?_
        | refine clK_mk (w4) rfl ?_
        | simp only [go_sem, *])
      all_goals rfl
  · have e6 := hfr 6 (by kernel_rfl)
    clear hfr
    simp only [go_sem] at e6
    obtain ⟨cur, g, hcul, hok, htk, hall⟩ := hJ
    rw [List.length_range, List.take_of_length_le (by omega), List.take_of_length_le (by simp)] at htk
    rw [List.length_range, List.take_of_length_le (by simp)] at hall
    have hpo : pointOf l b = some (l.map (· * b⁻¹)) := by unfold pointOf; rw [if_pos hall]
    have hdep : toTr u.hp dep (.rf (15, 0) l.length) = some (.sl true cur) := toTr_flat 5 hok hcul g
    rw [htk] at hdep
    rw [hpo]
    unfold pointT
    clear hpo hall
    repeat' (first
      | (with_reducible first | refine sA ?_ ?_ | refine sB ?_ ?_ | refine sC ?_ ?_ | refine sD ?_ ?_ | refine sE ?_ ?_ | refine sF ?_ ?_) <;> intro h
      | simp only [go_sem, *])
def SOut.tr : SOut → Tr
  | .pt p => .tup [.sl true (p.map rvT), .sl false [], .bool true, i64 0]
  | .ml ms => .tup [.sl false [], .sl true (ms.map u64T), .bool false, i64 0]
  | .lim => .tup [.sl false [], .sl false [], .bool false, i64 3]
theorem pow_fit {n c k : Nat} (h1 : n * c ≤ B ^ 2) (h2 : n + 2 ≤ B) (hk : n ≤ k) (hk2 : 2 * (2 * k + 1) < 50000) (h0 : 1 ≤ n) (hc : 1 ≤ c) : Fit (bigN n c) := by
  refine ⟨Nat.le_trans (Nat.mul_pos (by omega) (by omega)) (bigN_ge h0 hc), ?_⟩
  have e1 : (n * c) ^ n ≤ B ^ (2 * k) := by
    refine Nat.le_trans (Nat.pow_le_pow_left h1 n) ?_
    rw [← Nat.pow_mul]
    exact Nat.pow_le_pow_right B_pos (by omega)
  have e2 : bigN n c ≤ B ^ (2 * k + 1) := by
    unfold bigN
    rw [Nat.pow_succ, Nat.mul_comm]
    exact Nat.mul_le_mul e1 h2
  generalize 50000 = m at *
  refine Nat.lt_of_le_of_lt (Nat.mul_le_mul e2 e2) ?_
  rw [← Nat.pow_add]
  exact Nat.pow_lt_pow_right (by rw [B_eq]; decide) (by omega)
theorem AnsB.over {ans : List Rat ⊕ List Rat} {N : Nat} (h : AnsB ans N) : Over (ansL ans) N := h
theorem Over.sub {l l' : List Rat} {N : Nat} (h : Over l N) (hs : ∀ x ∈ l', x ∈ l) : Over l' N := by
  obtain ⟨d, h1, h2, h3⟩ := h
  exact ⟨d, h1, h2, fun x hx => h3 x (hs x hx)⟩
theorem Over.FB {l : List Rat} {N : Nat} (h : Over l N) : ∀ x ∈ l, FB x N N := fun x hx => ⟨h.num hx, h.den hx⟩
theorem AnsB.mono {ans : List Rat ⊕ List Rat} {N M : Nat} (h : AnsB ans N) (hM : N ≤ M) : AnsB ans M := by
  obtain ⟨d, h1, h2, h3⟩ := h
  exact ⟨d, h1, Nat.le_trans h2 hM, fun x hx => (h3 x hx).mono hM⟩
theorem sys_in {V : Nat} {rows : List Row} (hS : Sys V rows) : ∀ r ∈ rows, r.coefs.length = V ∧ inI64 r.const ∧ ∀ c ∈ r.coefs, inI64 c := fun r hr => by
  obtain ⟨h1, h2, h3⟩ := hS.r r hr
  have a1 := smallB_abs h2
  exact ⟨h1, ⟨by omega, by omega⟩, fun c hc => by have := smallB_abs (h3 c hc); exact ⟨by omega, by omega⟩⟩
theorem entR_B {V C : Nat} {r : Row} (h1 : r.coefs.length = V) (h2 : r.const.natAbs ≤ C) (h3 : ∀ c ∈ r.coefs, c.natAbs ≤ C) (k : Nat) : (entR r k).natAbs ≤ C := by
  rcases Nat.lt_trichotomy k V with h | h | h
  · rw [entR_low h1 h, List.getD_eq_getElem?_getD, List.getElem?_eq_getElem (by omega)]
    exact h3 _ (List.getElem_mem _)
  · subst h; rw [entR_top h1]; exact h2
  · have : entR r k = 0 := by
      unfold entR fullR
      rw [List.getD_eq_getElem?_getD, List.getElem?_eq_none (by simp; omega)]; rfl
    rw [this]; exact Nat.zero_le _
theorem intM_of {V C : Nat} {rows : List Row} {more : List (List Rat)} {rhs : List Rat} (hC : 1 ≤ C) (hr : ∀ r ∈ rows, r.coefs.length = V ∧ r.const.natAbs ≤ C ∧ ∀ c ∈ r.coefs, c.natAbs ≤ C) (hm : ∀ c ∈ more, ∀ x ∈ c, IntB x C) (hb : ∀ x ∈ rhs, IntB x C) : IntM (matL V rows more) rhs C := by
  refine ⟨hC, fun r hr' x hx => ?_, hb⟩
  simp only [matL, List.mem_map, List.mem_range] at hr'
  obtain ⟨i, _, rfl⟩ := hr'
  rcases List.mem_append.1 hx with hx | hx
  · obtain ⟨q, hq, rfl⟩ := List.mem_map.1 hx
    obtain ⟨a1, a2, a3⟩ := hr q hq
    exact ⟨_, rfl, entR_B a1 a2 a3 i⟩
  · obtain ⟨q, hq, rfl⟩ := List.mem_map.1 hx
    exact getD_B (hm q hq) i
theorem unit_B {V : Nat} {x : Int} {C : Nat} (h : x.natAbs ≤ C) : ∀ y ∈ unitL V x, IntB y C := fun y hy => by
  rcases List.mem_append.1 hy with hy | hy
  · rw [(List.mem_replicate.1 hy).2]; exact zeroB' C
  · rw [List.mem_singleton.1 hy]; exact ⟨x, rfl, h⟩
theorem natAbs_of_small {k : Int} (h : smallB k = true) : k.natAbs ≤ 1048577 := by have := smallB_abs h; omega
theorem modest_row {V : Nat} {rows : List Row} (h : modestB V rows = true) : V ≤ 4 ∧ ∀ r ∈ rows, r.const.natAbs ≤ 1000 ∧ ∀ c ∈ r.coefs, c.natAbs ≤ 1000 := by
  simp only [modestB, Bool.and_eq_true, List.all_eq_true, decide_eq_true_eq, List.mem_cons, forall_eq_or_imp] at h
  refine ⟨h.2, fun r hr => ?_⟩
  obtain ⟨⟨h1, h2⟩, h3⟩ := h.1 r hr
  exact ⟨by omega, fun c hc => by have := h3 c hc; omega⟩
theorem nonneg_sys {V C : Nat} {rows : List Row} {more : List (List Rat)} {rhs : List Rat} (b : Bool) (hC : 1 ≤ C) (hC2 : C ≤ 4194304) (hV : V ≤ 128) (hn : rows.length + more.length ≤ 10000) (hr : ∀ r ∈ rows, r.coefs.length = V ∧ r.const.natAbs ≤ C ∧ ∀ c ∈ r.coefs, c.natAbs ≤ C)
    (hm : ∀ c ∈ more, ∀ x ∈ c, IntB x C) (hb : ∀ x ∈ rhs, IntB x C) (hrl : rhs.length = V + 1) (P : Prop)
    (hP : P → V ≤ 4 ∧ (∀ r ∈ rows, r.const.natAbs ≤ 1001 ∧ ∀ c ∈ r.coefs, c.natAbs ≤ 1001) ∧ (∀ c ∈ more, ∀ x ∈ c, IntB x 1001) ∧ ∀ x ∈ rhs, IntB x 1001) :
    ∃ ans N, Fit N ∧ RightA (matL V rows more) rhs ans ∧ AnsB ans N ∧ (P → AnsB ans maxV) ∧ DCall Tryz.prog 66 [encM b (matL V rows more), .sl true (rhs.map encQ)] (encAns ans) := by
  have hml := matL_len V rows more
  by_cases hp : P
  · obtain ⟨p1, p2, p3, p4⟩ := hP hp
    have hI : IntM (matL V rows more) rhs 1001 := intM_of (by decide) (fun r hr' => ⟨(hr r hr').1, p2 r hr'⟩) p3 p4
    have hfit2 : Fit (bigN (matL V rows more).length 1001) := by
      rw [hml]
      exact pow_fit (k := 129) (by rw [B2]; exact Nat.le_trans (Nat.mul_le_mul (show V + 1 ≤ 5 by omega) (Nat.le_refl 1001)) (by decide)) (by rw [B_eq]; omega) (by omega) (by decide) (by omega) (by decide)
    obtain ⟨ans, a1, a2, a3, a4⟩ := nonneg_d b (C := rows.length + more.length) (c := 1001) matL_row (by rw [hml, hrl]) (by omega) (by omega) (by omega) hI hfit2
    exact ⟨ans, _, hfit2, a1, a2, fun _ => (a3 (by omega)).mono (by decide), a4⟩
  · have hb1 : (V + 1) * C ≤ B ^ 2 := by
      rw [B2]
      refine Nat.le_trans (Nat.mul_le_mul (show V + 1 ≤ 129 by omega) hC2) (by decide)
    have hfit : Fit (bigN (matL V rows more).length C) := by
      rw [hml]
      exact pow_fit (k := 129) hb1 (by rw [B_eq]; omega) (by omega) (by decide) (by omega) hC
    obtain ⟨ans, a1, a2, _, a4⟩ := nonneg_d b (C := rows.length + more.length) (c := C) matL_row (by rw [hml, hrl]) (by omega) (by omega) (by omega) (intM_of hC hr hm hb) hfit
    exact ⟨ans, _, hfit, a1, a2, fun h => absurd h hp, a4⟩
theorem inr_pos {V : Nat} {rows : List Row} {u : List Rat} (ha : RightA (matL V rows []) (unitL V (-1)) (.inr u)) : u.length = V + 1 ∧ 0 < u.getD V 0 := by
  unfold RightA at ha
  rw [matL_len] at ha
  obtain ⟨a1, _, a3⟩ := ha
  rw [unit_dot] at a3
  have : ((-1 : Int) : Rat) = -1 := rfl
  rw [this] at a3
  exact ⟨a1, by grind⟩
theorem solve_d {V : Nat} (rnn : Bool) {rows : List Row} (he : sysErr V rows = 0) : ∃ out, SolveOk V rows out ∧ DCall Tryz.prog 18 [i64 (V : Nat), .sl rnn (rows.map Row.tr)] out.tr := by
  obtain ⟨V', hV', hS⟩ := sys_of he
  have hVV : V' = V := by omega
  subst hVV
  have hV := hS.v
  have hn := hS.n
  have hr1 := sys_in hS
  have hrc : ∀ r ∈ rows, r.coefs.length = V' ∧ r.const.natAbs ≤ 1048577 ∧ ∀ c ∈ r.coefs, c.natAbs ≤ 1048577 := fun r hr => by
    obtain ⟨h1, h2, h3⟩ := hS.r r hr
    exact ⟨h1, natAbs_of_small h2, fun c hc => natAbs_of_small (h3 c hc)⟩
  obtain ⟨ans, N, hN, ha, hA, hmod, hd⟩ := nonneg_sys (V := V') (C := 1048577) (rows := rows) (more := []) (rhs := unitL V' (-1)) (!(rows.isEmpty && ([] : List (List Rat)).isEmpty)) (by decide) (by decide) hV (by simp; omega) hrc (fun c hc => by simp at hc) (unit_B (by decide)) (unitL_len _ _) (modestB V' rows = true) (fun h => by
    obtain ⟨h1, h2⟩ := modest_row h
    exact ⟨h1, fun r hr => ⟨by have := (h2 r hr).1; omega, fun c hc => by have := (h2 r hr).2 c hc; omega⟩, fun c hc => by simp at hc, unit_B (by decide)⟩)
  have hok := solve_ok (fun r hr => (hr1 r hr).1) ha hmod
  refine ⟨_, hok, ?_⟩
  have w1 := lcheck_d V' rnn rows
  rw [he] at w1
  have w2 : DCall Tryz.prog 67 [i64 (V' : Nat), .sl rnn (rows.map Row.tr), .sl false []] _ := columns_d rnn (more := []) hr1 false (fun c hc => by simp at hc) (by omega) (by simp; omega)
  have w3 := unit_d V' (-1) (by omega) ⟨by decide, by decide⟩
  cases ans with
  | inl y =>
    have hyl : y.length = rows.length := by
      unfold RightA at ha
      rw [matL_head] at ha
      simpa using ha.1
    have hy0 : ∀ x ∈ y, 0 ≤ x := by
      unfold RightA at ha
      rw [matL_head] at ha
      exact all_nonneg (by simpa using ha.1) ha.2.1
    have w4 := integers_d true hN hA.over (by show y.length ≤ _; omega) hy0
    unfold encAns at hd
    simp only [ansL] at w4
    unfold solveOf at hok ⊢
    simp only at hok hd ⊢
    cases hmo : multsOf y with
    | some ms =>
      rw [hmo] at w4 hok
      have hye : (!y.isEmpty) = true := by
        obtain ⟨h1, h2, _⟩ := hok
        cases y with
        | nil =>
          rw [← hyl] at h1
          exact absurd (List.eq_nil_of_length_eq_zero h1) h2
        | cons a l => rfl
      rw [hye] at w4
      clear hok hmod hA ha hrc hr1 hS he hy0
      refine dcall_mk orders Tryz.func18 rfl (by kernel_rfl) noMu (by kernel_rfl) rfl (fun hs => ?_)
      clear hs
      repeat' (first
        | (with_reducible first | refine sA ?_ ?_ | refine sB ?_ ?_ | refine sC ?_ ?_ | refine sD ?_ ?_ | refine sE ?_ ?_ | refine sF ?_ ?_) <;> intro h
        | refine clK_mk (w1) rfl ?_
        | refine clK_mk (w2) rfl ?_
        | refine clK_mk (w3) rfl ?_
        | refine clK_mk (hd) rfl ?_
        | refine clK_mk (w4) rfl ?_
        | simp only [go_sem, *])
      rfl
    | none =>
      rw [hmo] at w4 hok
      clear hok hmod hA ha hrc hr1 hS he hy0
      refine dcall_mk orders Tryz.func18 rfl (by kernel_rfl) noMu (by kernel_rfl) rfl (fun hs => ?_)
      clear hs
      repeat' (first
        | (with_reducible first | refine sA ?_ ?_ | refine sB ?_ ?_ | refine sC ?_ ?_ | refine sD ?_ ?_ | refine sE ?_ ?_ | refine sF ?_ ?_) <;> intro h
        | refine clK_mk (w1) rfl ?_
        | refine clK_mk (w2) rfl ?_
        | refine clK_mk (w3) rfl ?_
        | refine clK_mk (hd) rfl ?_
        | refine clK_mk (w4) rfl ?_
        | simp only [go_sem, *])
      rfl
  | inr u =>
    obtain ⟨hul, hpos⟩ := inr_pos ha
    have hFB := hA.over.FB
    have huV : u.getD V' 0 ∈ u := getD_mem (by omega)
    have w4 := point_s true (l := u.take V') (b := u.getD V' 0) hN (fun x hx => hFB x (List.mem_of_mem_take hx)) (hFB _ huV) hpos (by simp; omega)
    have hq : (u.map encQ)[V']? = some (encQ (u.getD V' 0)) := by
      rw [List.getElem?_map, List.getD_eq_getElem?_getD, List.getElem?_eq_getElem (by omega)]; rfl
    unfold encAns at hd
    unfold solveOf at hok ⊢
    simp only at hok hd ⊢
    rw [List.map_take] at w4
    have hflu : (flat (u.map encQ)).length = (V' + 1) * 6 := by rw [rat_len, hul]
    generalize u.getD V' 0 = b at *
    cases hpo : pointOf (u.take V') b with
    | some p =>
      rw [hpo] at w4 hok
      clear hok hmod hA ha hrc hr1 hS he hFB huV
      unfold pointT at w4
      simp only at w4
      refine dcall_mk orders Tryz.func18 rfl (by kernel_rfl) noMu (by kernel_rfl) rfl (fun hs => ?_)
      clear hs
      repeat' (first
        | (with_reducible first | refine sA ?_ ?_ | refine sB ?_ ?_ | refine sC ?_ ?_ | refine sD ?_ ?_ | refine sE ?_ ?_ | refine sF ?_ ?_) <;> intro h
        | refine clK_mk (w1) rfl ?_
        | refine clK_mk (w2) rfl ?_
        | refine clK_mk (w3) rfl ?_
        | refine clK_mk (hd) rfl ?_
        | refine clK_mk (w4) rfl ?_
        | simp only [go_sem, *])
      with_reducible refine hpK_if ?_ ?_
      · omega
      repeat' (first
        | (with_reducible first | refine sA ?_ ?_ | refine sB ?_ ?_ | refine sC ?_ ?_ | refine sD ?_ ?_ | refine sE ?_ ?_ | refine sF ?_ ?_) <;> intro h
        | refine clK_mk (w1) rfl ?_
        | refine clK_mk (w2) rfl ?_
        | refine clK_mk (w3) rfl ?_
        | refine clK_mk (hd) rfl ?_
        | refine clK_mk (w4) rfl ?_
        | simp only [go_sem, *])
      all_goals rfl
    | none =>
      rw [hpo] at w4 hok
      clear hok hmod hA ha hrc hr1 hS he hFB huV
      unfold pointT at w4
      simp only at w4
      refine dcall_mk orders Tryz.func18 rfl (by kernel_rfl) noMu (by kernel_rfl) rfl (fun hs => ?_)
      clear hs
      repeat' (first
        | (with_reducible first | refine sA ?_ ?_ | refine sB ?_ ?_ | refine sC ?_ ?_ | refine sD ?_ ?_ | refine sE ?_ ?_ | refine sF ?_ ?_) <;> intro h
        | refine clK_mk (w1) rfl ?_
        | refine clK_mk (w2) rfl ?_
        | refine clK_mk (w3) rfl ?_
        | refine clK_mk (hd) rfl ?_
        | refine clK_mk (w4) rfl ?_
        | simp only [go_sem, *])
      with_reducible refine hpK_if ?_ ?_
      · omega
      repeat' (first
        | (with_reducible first | refine sA ?_ ?_ | refine sB ?_ ?_ | refine sC ?_ ?_ | refine sD ?_ ?_ | refine sE ?_ ?_ | refine sF ?_ ?_) <;> intro h
        | refine clK_mk (w1) rfl ?_
        | refine clK_mk (w2) rfl ?_
        | refine clK_mk (w3) rfl ?_
        | refine clK_mk (hd) rfl ?_
        | refine clK_mk (w4) rfl ?_
        | simp only [go_sem, *])
      all_goals rfl
end YtihgdplbehempaaGreat
end Go.Vm
end
section
set_option linter.unusedSimpArgs false
set_option maxRecDepth 10000
namespace Go.Vm
open Go Go.Proofs Go.Whole Go.Simplex
namespace YtihgdplbehempaaGreat
open Go.Proofs.Tryz
theorem cloneQ_i (l : List Rat) (h : Hp) (hlen : l.length ≤ 1000000) :
    ICall Tryz.prog 160 [.t (.sl true (l.map encQ))] h (fun v h' => v = .rf (hnext h 5) l.length ∧ h' = hnew h 5 ⟨ratsC l, 6, l.length, tRat, true, true⟩) := by
  by_cases hne : l = []
  · subst hne
    refine icall_mk orders Tryz.func160 rfl (by kernel_rfl) (fun d => d == 5 || d == 7) (by kernel_rfl) rfl (fun hs hlen => ?_)
    clear hs
    repeat' (first
      | (with_reducible first | refine sA ?_ ?_ | refine sB ?_ ?_ | refine sC ?_ ?_ | refine sD ?_ ?_ | refine sE ?_ ?_ | refine sF ?_ ?_) <;> intro h
      | simp only [go_sem, *])
    rw [append_rf0 (esz := 6) (e := tRat) (ag := true) (by kernel_rfl) (by kernel_rfl) (by kernel_rfl) rfl (by kernel_rfl) (hget_new _ _) (by decide)]
    repeat' (first
      | (with_reducible first | refine sA ?_ ?_ | refine sB ?_ ?_ | refine sC ?_ ?_ | refine sD ?_ ?_ | refine sE ?_ ?_ | refine sF ?_ ?_) <;> intro h
      | simp only [go_sem, *])
    all_goals rfl
  · have hempty : ¬ l = [] := hne
    refine icall_mk orders Tryz.func160 rfl (by kernel_rfl) (fun d => d == 5 || d == 7) (by kernel_rfl) rfl (fun hs hlen => ?_)
    clear hs
    repeat' (first
      | (with_reducible first | refine sA ?_ ?_ | refine sB ?_ ?_ | refine sC ?_ ?_ | refine sD ?_ ?_ | refine sE ?_ ?_ | refine sF ?_ ?_) <;> intro h
      | simp only [go_sem, *])
    rw [append_rf2 (esz := 6) (e := tRat) (ag := true) (by_ := 80) (by kernel_rfl) (by kernel_rfl) (by kernel_rfl) rfl (by kernel_rfl) (rats_len l) (hget_new _ _) (by rw [List.length_map]; omega) (by simpa using hne)]
    simp only [Nat.zero_add, List.length_map, List.nil_append, hset_new]
    repeat' (first
      | (with_reducible first | refine sA ?_ ?_ | refine sB ?_ ?_ | refine sC ?_ ?_ | refine sD ?_ ?_ | refine sE ?_ ?_ | refine sF ?_ ?_) <;> intro h
      | simp only [go_sem, *])
    all_goals rfl
def zCert : Cert := ⟨0, false, []⟩
def IOut.tr : IOut → Tr
  | .cert sc ms => .tup [Cert.tr ⟨sc, true, ms⟩, .sl false [], .bool true, i64 0]
  | .pt p => .tup [zCert.tr, .sl true (p.map rvT), .bool false, i64 0]
  | .lim => .tup [zCert.tr, .sl false [], .bool false, i64 3]
attribute [go_sem] zCert
theorem certificate_s {y : List Rat} {N : Nat} (hN : Fit N) (ho : Over y N) (hlen : y.length ≤ 1000) (hpos : ∀ x ∈ y, 0 ≤ x) :
    DCall Tryz.prog 79 [.sl true (y.map encQ)] (certOf y).tr := by
  have ho1 : Over (y ++ [1]) N := by
    obtain ⟨d, h1, h2, h3⟩ := ho
    refine ⟨d, h1, h2, fun x hx => ?_⟩
    rcases List.mem_append.1 hx with hx | hx
    · exact h3 x hx
    · rw [List.mem_singleton.1 hx]; exact ⟨d, by grind, h2⟩
  have hpos1 : ∀ x ∈ y ++ [1], (0 : Rat) ≤ x := fun x hx => by
    rcases List.mem_append.1 hx with hx | hx
    · exact hpos x hx
    · rw [List.mem_singleton.1 hx]; grind
  have w1 := integers_d true hN ho1 (by simp; omega) hpos1
  have hne : (!(y ++ [(1 : Rat)]).isEmpty) = true := by simp
  rw [hne] at w1
  have wo := whole_d 1 (by unfold inI64; omega)
  rw [rc1] at wo
  have hlm : ∀ l, multsOf (y ++ [1]) = some l → l.length = y.length + 1 := fun l hl => by
    have := (multsOf_some hpos1 hl).2.1
    simpa using this
  unfold certOf
  have hcs : ratsC y ++ (flat [Tr.agg (ratC 1)]).map .t = ratsC (y ++ [1]) := by
    unfold ratsC
    rw [List.map_append, flat_append, List.map_append]; rfl
  clear ho ho1 hpos hpos1
  refine dcall_mk orders Tryz.func79 rfl (by kernel_rfl) (fun d => d == 2 || d == 10 || d == 13) (by kernel_rfl) rfl (fun hs => ?_)
  clear hs
  repeat' (first
    | (with_reducible first | refine sA ?_ ?_ | refine sB ?_ ?_ | refine sC ?_ ?_ | refine sD ?_ ?_ | refine sE ?_ ?_ | refine sF ?_ ?_) <;> intro h
    | simp only [go_sem, *, hnext_nil])
  obtain ⟨h0, hh0⟩ : ∃ h0, h0 = hnew (fun _ => []) 2 ⟨[.t (.int .u64 0), .t (.sl false [])], 2, 1, 40, true, true⟩ := ⟨_, rfl⟩
  have g2 : hget h0 (2, 0) = some ⟨[.t (.int .u64 0), .t (.sl false [])], 2, 1, 40, true, true⟩ := by rw [hh0]; rfl
  rw [← hh0]
  clear hh0
  refine clK_ic (cloneQ_i y h0 (by omega)) (fun v h' hQ => ?_)
  obtain ⟨rfl, rfl⟩ := hQ
  have hdep : toTr (hnew h0 5 ⟨ratsC (y ++ [1]), 6, y.length + 1, tRat, true, true⟩) dep (.rf (hnext h0 5) (y.length + 1)) = some (.sl true ((y ++ [1]).map encQ)) := toTr_flat 5 (ok_rats _) (by simp) (hget_new _ _)
  repeat' (first
    | (with_reducible first | refine sA ?_ ?_ | refine sB ?_ ?_ | refine sC ?_ ?_ | refine sD ?_ ?_ | refine sE ?_ ?_ | refine sF ?_ ?_) <;> intro h
    | refine clK_mk (wo) rfl ?_
    | simp only [go_sem, *])
  rw [append_rf2 (esz := 6) (e := tRat) (ag := true) (by_ := 80) (by kernel_rfl) (by kernel_rfl) (by kernel_rfl) rfl (by kernel_rfl) (fun x hx => by rw [List.mem_singleton.1 hx]; exact ratC_length 1) (hget_new _ _) (by simp; omega) (by simp)]
  rw [hcs, hset_new]
  simp only [List.length_cons, List.length_nil, Nat.zero_add]
  have g3 : hget (frz (hnew h0 5 ⟨ratsC (y ++ [1]), 6, y.length + 1, tRat, true, true⟩) (([.rf (hnext h0 5) (y.length + 1)] : List PV).flatMap (reach (hnew h0 5 ⟨ratsC (y ++ [1]), 6, y.length + 1, tRat, true, true⟩) dep))) (2, 0) = some ⟨[.t (.int .u64 0), .t (.sl false [])], 2, 1, 40, true, true⟩ := by
    refine frz_other (hget_new_old g2 _) ?_
    simp only [List.flatMap_cons, List.flatMap_nil, List.append_nil]
    rw [show reach (hnew h0 5 ⟨ratsC (y ++ [1]), 6, y.length + 1, tRat, true, true⟩) dep (.rf (hnext h0 5) (y.length + 1)) = [hnext h0 5] from reach_row 5 (hget_new _ _)]
    simp [hnext]
  cases hmo : multsOf (y ++ [1]) with
  | some l =>
    rw [hmo] at w1
    simp only at w1
    have hl := hlm l hmo
    have hlg : l[y.length]? = some (l.getD y.length 0) := by rw [List.getD_eq_getElem?_getD, List.getElem?_eq_getElem (by omega)]; rfl
    have hlg2 : (l.map u64T)[y.length]? = some (u64T (l.getD y.length 0)) := by rw [List.getElem?_map, hlg]; rfl
    have hfl : (flat (l.map u64T)).length = (y.length + 1) * 1 := by
      rw [flat_length _ 1 (fun x hx => by obtain ⟨z, _, rfl⟩ := List.mem_map.1 hx; rfl), List.length_map, hl]
    generalize hsc : l.getD y.length 0 = sc at *
    simp only [hsc]
    clear hsc
    repeat' (first
      | (with_reducible first | refine sA ?_ ?_ | refine sB ?_ ?_ | refine sC ?_ ?_ | refine sD ?_ ?_ | refine sE ?_ ?_ | refine sF ?_ ?_) <;> intro h
      | refine clK_mk (wo) rfl ?_
      | simp only [go_sem, *])
    refine clK_fz w1 (by simp only [go_sem, hdep]) rfl ?_
    generalize frz _ _ = HF at *
    clear hdep hcs wo w1
    repeat' (first
      | (with_reducible first | refine sA ?_ ?_ | refine sB ?_ ?_ | refine sC ?_ ?_ | refine sD ?_ ?_ | refine sE ?_ ?_ | refine sF ?_ ?_) <;> intro h
      | simp only [go_sem, *])
    with_reducible refine hpK_if ?_ ?_
    · omega
    repeat' (first
      | (with_reducible first | refine sA ?_ ?_ | refine sB ?_ ?_ | refine sC ?_ ?_ | refine sD ?_ ?_ | refine sE ?_ ?_ | refine sF ?_ ?_) <;> intro h
      | simp only [go_sem, *])
    simp only [IOut.tr, Cert.tr, List.map_take]
  | none =>
    rw [hmo] at w1
    simp only at w1
    repeat' (first
      | (with_reducible first | refine sA ?_ ?_ | refine sB ?_ ?_ | refine sC ?_ ?_ | refine sD ?_ ?_ | refine sE ?_ ?_ | refine sF ?_ ?_) <;> intro h
      | refine clK_mk (wo) rfl ?_
      | simp only [go_sem, *])
    refine clK_fz w1 (by simp only [go_sem, hdep]) rfl ?_
    generalize frz _ _ = HF at *
    repeat' (first
      | (with_reducible first | refine sA ?_ ?_ | refine sB ?_ ?_ | refine sC ?_ ?_ | refine sD ?_ ?_ | refine sE ?_ ?_ | refine sF ?_ ?_) <;> intro h
      | simp only [go_sem, *])
    rfl
end YtihgdplbehempaaGreat
end Go.Vm
end
