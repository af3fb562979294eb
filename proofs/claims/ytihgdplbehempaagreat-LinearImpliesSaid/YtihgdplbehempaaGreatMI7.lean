import Derived.Test.YtihgdplbehempaaGreatMI6
set_option linter.unusedSimpArgs false
set_option linter.unusedVariables false
section
set_option linter.unusedSimpArgs false
set_option maxRecDepth 10000
namespace Go.Vm
open Go Go.Proofs Go.Whole Go.Simplex
namespace YtihgdplbehempaaGreat
open Go.Proofs.Tryz
abbrev tFarkas : TypeId := 40
abbrev tI64x : TypeId := 2
theorem hnext_adds' {h : Hp} {d : Nat} : ∀ {l : List (Nat × Obj)}, (∀ p ∈ l, p.1 ≠ d) → hnext (adds l h) d = hnext h d
  | [], _ => rfl
  | p :: l, hp => by
    show hnext (adds l (hnew h p.1 p.2)) d = _
    rw [hnext_adds' (fun q hq => hp q (List.mem_cons_of_mem _ hq))]
    simp only [hnext, hnew, upd]
    rw [if_neg (fun e => hp p (by simp) e.symm)]
theorem hnew_adds' {d : Nat} {o : Obj} : ∀ {l : List (Nat × Obj)} {h : Hp}, (∀ p ∈ l, p.1 ≠ d) → hnew (adds l h) d o = adds l (hnew h d o)
  | [], _, _ => rfl
  | p :: l, h, hp => by
    show hnew (adds l (hnew h p.1 p.2)) d o = adds l (hnew (hnew h d o) p.1 p.2)
    rw [hnew_adds' (fun q hq => hp q (List.mem_cons_of_mem _ hq))]
    congr 1
    funext s
    have := hp p (by simp)
    simp only [hnew, upd]
    by_cases e1 : s = d
    · subst e1
      rw [if_pos rfl, if_neg (fun e => this e.symm), if_pos rfl, if_neg (fun e => this e.symm)]
    · rw [if_neg e1]
      by_cases e2 : s = p.1
      · subst e2; rw [if_pos rfl, if_pos rfl, if_neg this]
      · rw [if_neg e2, if_neg e2, if_neg e1]
theorem mapO_app {f : PV → Option Tr} : ∀ {a b : List PV} {x y : List Tr}, mapO f a = some x → mapO f b = some y → mapO f (a ++ b) = some (x ++ y)
  | [], b, x, y, h1, h2 => by
    simp only [mapO, Option.some.injEq] at h1
    subst h1; exact h2
  | p :: a, b, x, y, h1, h2 => by
    simp only [mapO] at h1
    split at h1
    · rename_i c bs e1 e2
      simp only [Option.some.injEq] at h1
      subst h1
      simp only [List.cons_append, mapO, e1, mapO_app e2 h2]
    · cases h1
theorem last_dep {h : Hp} {id : Id} {rows : List Row} {r : Row} {v : PV} {acc : List Int} {c : Int} (hg : hget h id = some ⟨(flat (rows.map Row.tr)).map .t ++ [v, .t (i64 c)], 2, rows.length + 1, tRow, true, true⟩) (ho : Own h 39 tI64x 1 false v (!acc.isEmpty) (acc.map (Tr.int .i64)))
    (hr : r.tr = .agg [.sl (!acc.isEmpty) (acc.map (Tr.int .i64)), .int .i64 c]) : toTr h dep (.rf id (rows.length + 1)) = some (.sl true ((rows ++ [r]).map Row.tr)) := by
  show toTr h (5 + 1) _ = _
  rw [toTr_rf', hg]
  simp only [if_true]
  have h1 : mapO (toTr h 5) ((flat (rows.map Row.tr)).map .t) = some (flat (rows.map Row.tr)) := mapO_t _
  have h2 : mapO (toTr h 5) [v, .t (i64 c)] = some [.sl (!acc.isEmpty) (acc.map (Tr.int .i64)), i64 c] := by
    simp only [mapO, ho.toTr 4, toTr_t]
  rw [mapO_app h1 h2]
  have h3 : flat (rows.map Row.tr) ++ [.sl (!acc.isEmpty) (acc.map (Tr.int .i64)), i64 c] = flat ((rows ++ [r]).map Row.tr) := by
    rw [List.map_append, flat_append]
    congr 1
    show _ = flat [r.tr]
    rw [hr]; rfl
  rw [h3]
  have := elems_flat (ok_rows (rows ++ [r]))
  rw [List.length_map, List.length_append, List.length_singleton] at this
  simp only [this]
theorem last_reach {h : Hp} {id i : Id} {rows : List Row} {v : PV} {acc : List Int} {c : Int} (hg : hget h id = some ⟨(flat (rows.map Row.tr)).map .t ++ [v, .t (i64 c)], 2, rows.length + 1, tRow, true, true⟩) (ho : Own h 39 tI64x 1 false v (!acc.isEmpty) (acc.map (Tr.int .i64)))
    (h1 : (i == id) = false) (h2 : (i.1 == 39) = false) : (reach h dep (.rf id (rows.length + 1))).contains i = false := by
  show (reach h (5 + 1) _).contains i = false
  have h3 := own_reach (k := 4) ho h2
  simp only [List.flatMap_cons, List.flatMap_nil, List.append_nil] at h3
  rw [show reach h (5 + 1) (.rf id (rows.length + 1)) = id :: (match hget h id with | some o => o.cs.flatMap (reach h 5) | none => []) from rfl, hg]
  simp only [List.flatMap_append, flat_reach, List.nil_append, List.flatMap_cons, List.flatMap_nil, List.append_nil, reach_t]
  rw [List.contains_cons, h1]
  exact h3
theorem far_s {V : Nat} (rnn : Bool) {rows : List Row} {row : Row} (hnn : rnn = false → rows = []) (he : sysErr V (rows ++ [row]) = 0) {out : SOut} (hd : DCall Tryz.prog 18 [i64 (V : Nat), .sl rnn (rows.map Row.tr)] out.tr) (hso : SolveOk V rows out)
    {ans : List Rat ⊕ List Rat} {N : Nat} {w : List Rat} (hN : Fit N) (hA : AnsB ans N) (hans : ∀ p, out = .pt p → ans = .inr w ∧ w.length = V + 1 ∧ 0 < w.getD V 0) (hdn : DCall Tryz.prog 66 [encM true (matL V (rows ++ [below row]) []), .sl true ((unitL V (-1)).map encQ)] (encAns ans)) :
    DCall Tryz.prog 81 [i64 (V : Nat), .sl rnn (rows.map Row.tr), row.tr] (match out with | .lim => IOut.lim | .ml ms => .cert 0 ms | .pt _ => ptOf V w).tr := by
  obtain ⟨V', hV', hS⟩ := sys_of he
  have hVV : V' = V := by omega
  subst hVV
  have hV := hS.v
  have hn := hS.n
  rw [List.length_append, List.length_singleton] at hn
  obtain ⟨hsl, hr1, hr2, hr3⟩ := hS.left
  have ac := smallB_abs hr2
  have hw1 : IntKind.i64.wrap (0 - row.const) = -row.const := by rw [wrap_i64 (by omega) (by omega)]; omega
  have hw2 : IntKind.i64.wrap (-row.const - 1) = -row.const - 1 := wrap_i64 (by omega) (by omega)
  refine dcall_mk orders Tryz.func81 rfl (by kernel_rfl) (fun d => d == 6 || d == 10 || d == 34 || d == 40 || d == 39 || d == 64 || d == 65 || d == 66 || d == 67 || d == 68 || d == 4999999 || d == 1000010 || d == 10000010 || d == 5000066 || d == 11000067) (by kernel_rfl) rfl (fun hs => ?_)
  clear hs
  repeat' (first
    | (with_reducible first | refine sA ?_ ?_ | refine sB ?_ ?_ | refine sC ?_ ?_ | refine sD ?_ ?_ | refine sE ?_ ?_ | refine sF ?_ ?_) <;> intro h
    | simp only [go_sem, *, hnext_nil, hnext_new, hget_new0])
  refine loop_range (List.range (V')) (fun k s' => ∃ (acc : List Int) (v : PV), hget s'.hp (10, 0) = some ⟨[v, .t (i64 (-row.const - 1))], 2, 1, tRow, true, true⟩ ∧ Own s'.hp 39 tI64x 1 false v (!acc.isEmpty) (acc.map (Tr.int .i64)) ∧ acc.length = k ∧ acc = (row.coefs.map (fun c => -c)).take k ∧ hget s'.hp (6, 0) = some ⟨[.t (.int .u64 0), .t (.sl false [])], 2, 1, tFarkas, true, true⟩) rfl (by rw [List.length_range]; rfl) (by rw [List.length_range]; first | assumption | omega) (by kernel_rfl) (fun _ _ _ _ hj => hj) (fun _ _ _ hj => hj) ?_ (fun j y u hy hyd hj hJ hjx hfr H hH => ?_) (fun u hJ hfr => ?_)
  · exact ⟨[], .t (.sl false []), rfl, Own.nil, rfl, rfl, rfl⟩
  · have e0 := hfr 0 (by kernel_rfl)
    have e1 := hfr 1 (by kernel_rfl)
    have e6 := hfr 6 (by kernel_rfl)
    have e10 := hfr 10 (by kernel_rfl)
    have e28 := hfr 28 (by kernel_rfl)
    clear hfr
    simp only [go_sem] at e0 e1 e6 e10 e28
    obtain ⟨acc, v, g10, hown, hal, hJ, g6⟩ := hJ
    rw [List.length_range] at hj
    have hyj : y = j := by rw [List.getElem?_range hj] at hy; injection hy with hy; exact hy.symm
    subst hyj
    clear hy hyd
    obtain ⟨a, ha, _⟩ := get_of_lt row.coefs y (by omega)
    have ha2 : (row.coefs.map (Tr.int .i64))[y]? = some (.int .i64 a) := by rw [List.getElem?_map, ha]; rfl
    have hab := smallB_abs (hr3 a (List.mem_of_getElem? ha))
    have hwa : IntKind.i64.wrap (0 - a) = -a := by rw [wrap_i64 (by omega) (by omega)]; omega
    have hJ2 : acc ++ [-a] = (row.coefs.map (fun c => -c)).take (y + 1) := by
      rw [List.take_add_one, List.getElem?_map, ha, hJ]; rfl
    have hone := hown.one
    clear hJ hw1 hw2 hdn hso hd hans
    repeat' (first
      | (with_reducible first | refine sA ?_ ?_ | refine sB ?_ ?_ | refine sC ?_ ?_ | refine sD ?_ ?_ | refine sE ?_ ?_ | refine sF ?_ ?_) <;> intro h
      | simp only [go_sem, *, hnext_nil])
    refine hpK_append (hown.frame (by simp only [go_sem])) rfl (by kernel_rfl) (by kernel_rfl) (by kernel_rfl) (by kernel_rfl) rfl (by kernel_rfl) (ok_int _ _) (by simp; omega) (fun v' h' ho hf => ?_)
    have hone2 := ho.one
    obtain ⟨o1, o2⟩ := hone2
    have g10b : hget h' (10, 0) = some ⟨[v, .t (i64 (-row.const - 1))], 2, 1, tRow, true, true⟩ := (hget_site (hf 10 rfl)).trans g10
    have g6b : hget h' (6, 0) = some ⟨[.t (.int .u64 0), .t (.sl false [])], 2, 1, tFarkas, true, true⟩ := (hget_site (hf 6 rfl)).trans g6
    repeat' (first
      | (with_reducible first | refine sA ?_ ?_ | refine sB ?_ ?_ | refine sC ?_ ?_ | refine sD ?_ ?_ | refine sE ?_ ?_ | refine sF ?_ ?_) <;> intro h
      | simp only [go_sem, *, hnext_nil])
    refine hH _ ⟨acc ++ [-a], v', ?_, ho.snoc.frame ?_, by simp [hal], hJ2, ?_⟩
    · exact set_same g10b _
    · simp only [go_sem, hset_site]
    · exact set_other g6b (.inl rfl) _
  · have e0 := hfr 0 (by kernel_rfl)
    have e1 := hfr 1 (by kernel_rfl)
    have e6 := hfr 6 (by kernel_rfl)
    have e10 := hfr 10 (by kernel_rfl)
    clear hfr
    simp only [go_sem] at e0 e1 e6 e10
    obtain ⟨acc, v, g10, hown, hal, hJ, g6⟩ := hJ
    rw [List.length_range] at hal hJ
    rw [List.take_of_length_le (by simp; omega)] at hJ
    have b3 : ((3 : Int) != 0) = true := rfl
    have b4 : ((3 : Int) == 0) = false := rfl
    have b5 : ((0 : Int) != 0) = false := rfl
    have b6 : ((0 : Int) == 0) = true := rfl
    cases out with
    | lim =>
      unfold SOut.tr at hd
      simp only at hd
      repeat' (first
        | (with_reducible first | refine sA ?_ ?_ | refine sB ?_ ?_ | refine sC ?_ ?_ | refine sD ?_ ?_ | refine sE ?_ ?_ | refine sF ?_ ?_) <;> intro h
        | refine clK_mk (hd) rfl ?_
        | simp only [go_sem, *])
      rfl
    | ml ms =>
      unfold SOut.tr at hd
      simp only at hd
      repeat' (first
        | (with_reducible first | refine sA ?_ ?_ | refine sB ?_ ?_ | refine sC ?_ ?_ | refine sD ?_ ?_ | refine sE ?_ ?_ | refine sF ?_ ?_) <;> intro h
        | refine clK_mk (hd) rfl ?_
        | simp only [go_sem, *])
      rfl
    | pt p =>
      obtain ⟨rfl, hwl, hwp⟩ := hans p rfl
      unfold SOut.tr at hd
      simp only at hd
      unfold encAns at hdn
      simp only at hdn
      have hq : (w.map encQ)[V']? = some (encQ (w.getD V' 0)) := by
        rw [List.getElem?_map, List.getD_eq_getElem?_getD, List.getElem?_eq_getElem (by omega)]; rfl
      have hFB := hA.over.FB
      have wV : w.getD V' 0 ∈ w := getD_mem (by omega)
      have w4 := point_s true (l := w.take V') (b := w.getD V' 0) hN (fun x hx => hFB x (List.mem_of_mem_take hx)) (hFB _ wV) hwp (by simp; omega)
      rw [List.map_take] at w4
      have hflu : (flat (w.map encQ)).length = (V' + 1) * 6 := by rw [rat_len, hwl]
      have hone := hown.one
      obtain ⟨o1, o2⟩ := hone
      have hvd : toTr u.hp 4 v = some (.sl (!acc.isEmpty) (acc.map (Tr.int .i64))) := hown.toTr 3
      have hbr : Row.tr (below row) = .agg [.sl (!acc.isEmpty) (acc.map (Tr.int .i64)), .int .i64 (-row.const - 1)] := by
        have : (!row.coefs.isEmpty) = !acc.isEmpty := by rw [hJ]; cases row.coefs <;> rfl
        unfold Row.tr below
        simp only
        rw [this, ← hJ]
      unfold ptOf
      generalize w.getD V' 0 = b at *
      have hin : ∀ r ∈ rows ++ [below row], r.coefs.length = V' ∧ inI64 r.const ∧ ∀ c ∈ r.coefs, inI64 c := fun r hr => by
        rcases List.mem_append.1 hr with hr | hr
        · exact sys_in hsl r hr
        · rw [List.mem_singleton.1 hr]
          refine ⟨by simp [below, hr1], ⟨by simp only [below]; omega, by simp only [below]; omega⟩, fun c hc => ?_⟩
          obtain ⟨a, ha, rfl⟩ := List.mem_map.1 hc
          have := smallB_abs (hr3 a ha)
          exact ⟨by omega, by omega⟩
      have wc : DCall Tryz.prog 67 [i64 (V' : Nat), .sl true ((rows ++ [below row]).map Row.tr), .sl false []] _ := columns_d (V := V') true (rows := rows ++ [below row]) (more := []) hin false (fun c hc => by simp at hc) (by omega) (by simp; omega)
      rw [show (!((rows ++ [below row]).isEmpty && ([] : List (List Rat)).isEmpty)) = true by simp] at wc
      have wu := unit_d V' (-1) (by omega) ⟨by decide, by decide⟩
      clear hJ hw1 hw2 hans hso hFB wV hS hsl hr3
      cases rnn with
      | false =>
        have := hnn rfl
        subst this
        repeat' (first
          | (with_reducible first | refine sA ?_ ?_ | refine sB ?_ ?_ | refine sC ?_ ?_ | refine sD ?_ ?_ | refine sE ?_ ?_ | refine sF ?_ ?_) <;> intro h
          | refine clK_mk (hd) rfl ?_
          | simp only [go_sem, *])
        refine clK_iu (v := .t (.sl false [])) (h' := u.hp) (fun l hl => cloneRows_nil (adds l u.hp)) (fun c hc => rfl) rfl ?_ (fun c hc => rfl)
        repeat' (first
          | (with_reducible first | refine sA ?_ ?_ | refine sB ?_ ?_ | refine sC ?_ ?_ | refine sD ?_ ?_ | refine sE ?_ ?_ | refine sF ?_ ?_) <;> intro h
          | simp only [go_sem, *])
        rw [append_nR (e := tRow) (e2 := tRow) (esz := 2) (by_ := 32) (ag := true) (by kernel_rfl) (by kernel_rfl) (by kernel_rfl) rfl (by kernel_rfl) (by kernel_rfl) (.inl rfl) rfl (hget_new _ _) (by omega) (by omega)]
        obtain ⟨H3, hH3⟩ : ∃ H3, H3 = hnew (hnew u.hp 66 ⟨[v, .t (i64 (-row.const - 1))], 2, 1, tRow, true, true⟩) 67 ⟨[v, .t (i64 (-row.const - 1))], 2, 1, tRow, true, true⟩ := ⟨_, rfl⟩
        obtain ⟨id5, hid⟩ : ∃ id5, id5 = hnext (hnew u.hp 66 ⟨[v, .t (i64 (-row.const - 1))], 2, 1, tRow, true, true⟩) 67 := ⟨_, rfl⟩
        rw [← hH3, ← hid]
        have m5 : hget H3 id5 = some ⟨(flat (([] : List Row).map Row.tr)).map .t ++ [v, .t (i64 (-row.const - 1))], 2, ([] : List Row).length + 1, tRow, true, true⟩ := by rw [hH3, hid]; exact hget_new _ _
        have m6 : hget H3 (6, 0) = some ⟨[.t (.int .u64 0), .t (.sl false [])], 2, 1, tFarkas, true, true⟩ := by rw [hH3]; exact hget_new_old (hget_new_old g6 _) _
        have mo : Own H3 39 tI64x 1 false v (!acc.isEmpty) (acc.map (Tr.int .i64)) := hown.frame (by rw [hH3, hnew_site _ rfl, hnew_site _ rfl])
        have hdep := last_dep m5 mo hbr
        have hrc := last_reach (i := (6, 0)) m5 mo (by rw [hid]; rfl) rfl
        have m7 := frz_other m6 (ids := reach H3 dep (.rf id5 (([] : List Row).length + 1))) hrc
        clear hH3 hid hown g10 g6 hbr m5 m6 mo hrc
        simp only [List.length_nil, Nat.zero_add] at hdep m7
        simp only [encAns] at *
        repeat' (first
          | (with_reducible first | refine sA ?_ ?_ | refine sB ?_ ?_ | refine sC ?_ ?_ | refine sD ?_ ?_ | refine sE ?_ ?_ | refine sF ?_ ?_) <;> intro h
          | simp only [go_sem, *])
        refine clK_fe wc (by simp only [go_sem, hdep]) rfl rfl ?_
        simp only [List.flatMap_cons, List.flatMap_nil, List.append_nil, reach_t, List.nil_append]
        clear hdep
        generalize frz _ _ = HF at *
        cases hpo : pointOf (w.take V') b with
        | some q =>
          rw [hpo] at w4
          unfold pointT at w4
          simp only at w4
          repeat' (first
            | (with_reducible first | refine sA ?_ ?_ | refine sB ?_ ?_ | refine sC ?_ ?_ | refine sD ?_ ?_ | refine sE ?_ ?_ | refine sF ?_ ?_) <;> intro h
            | refine clK_mk (wu) rfl ?_
            | refine clK_mk (hdn) rfl ?_
            | refine clK_mk (w4) rfl ?_
            | simp only [go_sem, *])
          with_reducible refine hpK_if ?_ ?_
          · omega
          repeat' (first
            | (with_reducible first | refine sA ?_ ?_ | refine sB ?_ ?_ | refine sC ?_ ?_ | refine sD ?_ ?_ | refine sE ?_ ?_ | refine sF ?_ ?_) <;> intro h
            | refine clK_mk (wu) rfl ?_
            | refine clK_mk (hdn) rfl ?_
            | refine clK_mk (w4) rfl ?_
            | simp only [go_sem, *])
          all_goals rfl
        | none =>
          rw [hpo] at w4
          unfold pointT at w4
          simp only at w4
          repeat' (first
            | (with_reducible first | refine sA ?_ ?_ | refine sB ?_ ?_ | refine sC ?_ ?_ | refine sD ?_ ?_ | refine sE ?_ ?_ | refine sF ?_ ?_) <;> intro h
            | refine clK_mk (wu) rfl ?_
            | refine clK_mk (hdn) rfl ?_
            | refine clK_mk (w4) rfl ?_
            | simp only [go_sem, *])
          with_reducible refine hpK_if ?_ ?_
          · omega
          repeat' (first
            | (with_reducible first | refine sA ?_ ?_ | refine sB ?_ ?_ | refine sC ?_ ?_ | refine sD ?_ ?_ | refine sE ?_ ?_ | refine sF ?_ ?_) <;> intro h
            | refine clK_mk (wu) rfl ?_
            | refine clK_mk (hdn) rfl ?_
            | refine clK_mk (w4) rfl ?_
            | simp only [go_sem, *])
          all_goals rfl
      | true =>
        repeat' (first
          | (with_reducible first | refine sA ?_ ?_ | refine sB ?_ ?_ | refine sC ?_ ?_ | refine sD ?_ ?_ | refine sE ?_ ?_ | refine sF ?_ ?_) <;> intro h
          | refine clK_mk (hd) rfl ?_
          | simp only [go_sem, *])
        refine clK_iu (v := .rf (hnext u.hp 5) rows.length) (h' := hnew u.hp 5 ⟨(flat (rows.map Row.tr)).map .t, 2, rows.length, tRow, true, true⟩) (fun l hl => ?_) (fun c hc => ?_) rfl ?_ (fun c hc => ?_)
        · have hne : ∀ p ∈ l, p.1 ≠ 5 := fun p hp => by
            have := hl p hp
            simp only [Bool.or_eq_true, beq_iff_eq] at this; omega
          have := cloneRows_i2 rows (adds l u.hp) (by omega)
          rw [hnext_adds' hne, hnew_adds' hne] at this
          exact this
        · have hc5 : (c == 5) = false := by simp only [Bool.or_eq_true, beq_iff_eq] at hc; rw [beq_eq_false_iff_ne]; omega
          rw [new_len _ hc5]
        rotate_left
        · have hc5 : (c == 5) = false := by simp only [Bool.or_eq_true, beq_iff_eq] at hc; rw [beq_eq_false_iff_ne]; omega
          rw [hnew_site _ hc5]
        have n10 := hget_new_old g10 (s := 5) ⟨(flat (rows.map Row.tr)).map .t, 2, rows.length, tRow, true, true⟩
        repeat' (first
          | (with_reducible first | refine sA ?_ ?_ | refine sB ?_ ?_ | refine sC ?_ ?_ | refine sD ?_ ?_ | refine sE ?_ ?_ | refine sF ?_ ?_) <;> intro h
          | simp only [go_sem, *])
        rw [append_rR (e := tRow) (e2 := tRow) (esz := 2) (by_ := 32) (by kernel_rfl) (by kernel_rfl) (by kernel_rfl) rfl (by kernel_rfl) (hget_new_old (hget_new _ _) _) (hget_new _ _) (by omega) (by omega)]
        have hH : ∃ H3, H3 = hset (hnew (hnew u.hp 5 ⟨(flat (rows.map Row.tr)).map .t, 2, rows.length, tRow, true, true⟩) 66 ⟨[v, .t (i64 (-row.const - 1))], 2, 1, tRow, true, true⟩) (hnext u.hp 5) ⟨(flat (rows.map Row.tr)).map .t ++ [v, .t (i64 (-row.const - 1))], 2, rows.length + 1, tRow, true, true⟩ := ⟨_, rfl⟩
        obtain ⟨H3, hH3⟩ := hH
        rw [← hH3]
        have m5 : hget H3 (hnext u.hp 5) = some ⟨(flat (rows.map Row.tr)).map .t ++ [v, .t (i64 (-row.const - 1))], 2, rows.length + 1, tRow, true, true⟩ := by rw [hH3]; exact set_same (hget_new_old (hget_new _ _) _) _
        have m6 : hget H3 (6, 0) = some ⟨[.t (.int .u64 0), .t (.sl false [])], 2, 1, tFarkas, true, true⟩ := by rw [hH3]; exact set_other (hget_new_old (hget_new_old g6 _) _) (.inr (ne_hnext g6)) _
        have mo : Own H3 39 tI64x 1 false v (!acc.isEmpty) (acc.map (Tr.int .i64)) := hown.frame (by rw [hH3, hset_site _ rfl, hnew_site _ rfl, hnew_site _ rfl])
        have hdep := last_dep m5 mo hbr
        have hrc := last_reach (i := (6, 0)) m5 mo (by have := ne_hnext (s := 5) g6; rw [beq_eq_false_iff_ne] at this ⊢; exact fun e => this e.symm) rfl
        have m7 := frz_other m6 (ids := reach H3 dep (.rf (hnext u.hp 5) (rows.length + 1))) hrc
        clear hH3 n10 hown g10 g6 hbr m5 m6 mo hrc
        generalize hnext u.hp 5 = id5 at *
        simp only [encAns] at *
        repeat' (first
          | (with_reducible first | refine sA ?_ ?_ | refine sB ?_ ?_ | refine sC ?_ ?_ | refine sD ?_ ?_ | refine sE ?_ ?_ | refine sF ?_ ?_) <;> intro h
          | simp only [go_sem, *])
        refine clK_fe wc (by simp only [go_sem, hdep]) rfl rfl ?_
        simp only [List.flatMap_cons, List.flatMap_nil, List.append_nil, reach_t, List.nil_append]
        clear hdep
        generalize frz _ _ = HF at *
        cases hpo : pointOf (w.take V') b with
        | some q =>
          rw [hpo] at w4
          unfold pointT at w4
          simp only at w4
          repeat' (first
            | (with_reducible first | refine sA ?_ ?_ | refine sB ?_ ?_ | refine sC ?_ ?_ | refine sD ?_ ?_ | refine sE ?_ ?_ | refine sF ?_ ?_) <;> intro h
            | refine clK_mk (wu) rfl ?_
            | refine clK_mk (hdn) rfl ?_
            | refine clK_mk (w4) rfl ?_
            | simp only [go_sem, *])
          with_reducible refine hpK_if ?_ ?_
          · omega
          repeat' (first
            | (with_reducible first | refine sA ?_ ?_ | refine sB ?_ ?_ | refine sC ?_ ?_ | refine sD ?_ ?_ | refine sE ?_ ?_ | refine sF ?_ ?_) <;> intro h
            | refine clK_mk (wu) rfl ?_
            | refine clK_mk (hdn) rfl ?_
            | refine clK_mk (w4) rfl ?_
            | simp only [go_sem, *])
          all_goals rfl
        | none =>
          rw [hpo] at w4
          unfold pointT at w4
          simp only at w4
          repeat' (first
            | (with_reducible first | refine sA ?_ ?_ | refine sB ?_ ?_ | refine sC ?_ ?_ | refine sD ?_ ?_ | refine sE ?_ ?_ | refine sF ?_ ?_) <;> intro h
            | refine clK_mk (wu) rfl ?_
            | refine clK_mk (hdn) rfl ?_
            | refine clK_mk (w4) rfl ?_
            | simp only [go_sem, *])
          with_reducible refine hpK_if ?_ ?_
          · omega
          repeat' (first
            | (with_reducible first | refine sA ?_ ?_ | refine sB ?_ ?_ | refine sC ?_ ?_ | refine sD ?_ ?_ | refine sE ?_ ?_ | refine sF ?_ ?_) <;> intro h
            | refine clK_mk (wu) rfl ?_
            | refine clK_mk (hdn) rfl ?_
            | refine clK_mk (w4) rfl ?_
            | simp only [go_sem, *])
          all_goals rfl
end YtihgdplbehempaaGreat
end Go.Vm
end
section
set_option linter.unusedSimpArgs false
set_option maxRecDepth 10000
namespace Go.Vm
open Go Go.Proofs Go.Whole Go.Simplex
namespace YtihgdplbehempaaGreat
open Go.Proofs.Tryz
theorem sysErr_left {vars : Int} {rows : List Row} {row : Row} (h : sysErr vars (rows ++ [row]) = 0) : sysErr vars rows = 0 := by
  unfold sysErr at h ⊢
  split at h
  · cases h
  · rename_i g1
    rw [if_neg g1]
    split at h
    · cases h
    · rename_i g2
      rw [if_neg (by simp at g2 ⊢; omega)]
      split at h
      · rename_i g3
        rw [List.all_append, Bool.and_eq_true] at g3
        rw [if_pos g3.1]
      · cases h
theorem IOut.shape (o : IOut) : ∃ (C : Cert) (P Q E : Tr), o.tr = .tup [C.tr, P, Q, E] := by
  cases o with
  | cert sc ms => exact ⟨_, _, _, _, rfl⟩
  | pt p => exact ⟨zCert, _, _, _, rfl⟩
  | lim => exact ⟨zCert, _, _, _, rfl⟩
def rhsQ (row : Row) : List Rat := (fullR row).map fun z : Int => (z : Rat)
theorem row_in {V : Nat} {rows : List Row} {row : Row} (hS : Sys V (rows ++ [row])) : row.coefs.length = V ∧ inI64 row.const ∧ ∀ c ∈ row.coefs, inI64 c := sys_in hS row (by simp)
set_option maxHeartbeats 1000000 in
theorem implies_d {V : Nat} (rnn : Bool) {rows : List Row} {row : Row} (hnn : rnn = false → rows = []) (he : sysErr V (rows ++ [row]) = 0) : ∃ out, ImpOk V rows row out ∧ DCall Tryz.prog 26 [i64 (V : Nat), .sl rnn (rows.map Row.tr), row.tr] out.tr := by
  obtain ⟨V', hV', hS⟩ := sys_of he
  have hVV : V' = V := by omega
  subst hVV
  have hV := hS.v
  have hn := hS.n
  rw [List.length_append, List.length_singleton] at hn
  obtain ⟨hsl, hr1, hr2, hr3⟩ := hS.left
  have hri := row_in hS
  have hr : ∀ r ∈ rows, r.coefs.length = V' := fun r h => (hsl.r r h).1
  have hrc : ∀ r ∈ rows, r.coefs.length = V' ∧ r.const.natAbs ≤ 1048577 ∧ ∀ c ∈ r.coefs, c.natAbs ≤ 1048577 := fun r h => by
    obtain ⟨h1, h2, h3⟩ := hsl.r r h
    exact ⟨h1, natAbs_of_small h2, fun c hc => natAbs_of_small (h3 c hc)⟩
  have hrhs : ∀ x ∈ rhsQ row, IntB x 1048577 := fun x hx => by
    obtain ⟨z, hz, rfl⟩ := List.mem_map.1 hx
    refine ⟨z, rfl, ?_⟩
    rcases List.mem_append.1 hz with hz | hz
    · exact natAbs_of_small (hr3 z hz)
    · rw [List.mem_singleton.1 hz]; exact natAbs_of_small hr2
  have hrl : (rhsQ row).length = V' + 1 := by simp [rhsQ, fullR, hr1]
  obtain ⟨ans, N, hN, ha, hA, hmod, hd⟩ := nonneg_sys (V := V') (C := 1048577) (rows := rows) (more := [unitL V' 1]) (rhs := rhsQ row) true (by decide) (by decide) hV (by simp; omega) hrc (fun c hc => by rw [List.mem_singleton.1 hc]; exact unit_B (by decide)) hrhs hrl (modestB V' (rows ++ [row]) = true) (fun h => by
    obtain ⟨h1, h2⟩ := modest_row h
    refine ⟨h1, fun r hr => ⟨by have := (h2 r (by simp [hr])).1; omega, fun c hc => by have := (h2 r (by simp [hr])).2 c hc; omega⟩, fun c hc => by rw [List.mem_singleton.1 hc]; exact unit_B (by decide), fun x hx => ?_⟩
    obtain ⟨h3, h4⟩ := h2 row (by simp)
    obtain ⟨z, hz, rfl⟩ := List.mem_map.1 hx
    refine ⟨z, rfl, ?_⟩
    rcases List.mem_append.1 hz with hz | hz
    · have := h4 z hz; omega
    · rw [List.mem_singleton.1 hz]; omega)
  have ha' : ImpRight V' rows row ans := ha
  have w1 := implied_d2 V' rnn rows row (by omega)
  rw [he] at w1
  have w2 : DCall Tryz.prog 67 [i64 (V' : Nat), .sl true [row.tr], .sl false []] _ := columns_d (V := V') true (rows := [row]) (more := []) (fun r h => by rw [List.mem_singleton.1 h]; exact hri) false (fun c hc => by simp at hc) (by omega) (by simp)
  have w3 : DCall Tryz.prog 67 [i64 (V' : Nat), .sl rnn (rows.map Row.tr), .sl true [.sl true ((unitL V' 1).map encQ)]] (encM true (matL V' rows [unitL V' 1])) := by
    have := columns_d (V := V') rnn (rows := rows) (more := [unitL V' 1]) (sys_in hsl) true (fun c hc => by rw [List.mem_singleton.1 hc]; exact unitL_len _ _) (by omega) (by simp; omega)
    rw [show (!(rows.isEmpty && [unitL V' 1].isEmpty)) = true by simp] at this
    exact this
  have wu := unit_d V' 1 (by omega) ⟨by decide, by decide⟩
  have hcol : ∀ i, i ≤ V' → (matL V' [row] [])[i]? = some [((entR row i : Int) : Rat)] := fun i hi => by
    have : i < V' + 1 := by omega
    simp [matL, colR, this]
  have hrg : ∀ i, i ≤ V' → (rhsQ row)[i]? = some ((entR row i : Int) : Rat) := fun i hi => by
    have h1 : i < (fullR row).length := by rw [full_len hr1]; omega
    unfold rhsQ entR
    rw [List.getElem?_map, List.getD_eq_getElem?_getD, List.getElem?_eq_getElem h1]; rfl
  -- what is decided behind the simplex method
  have hkey : ∀ out : IOut, ImpOk V' rows row out → (∀ y, ans = .inl y → y.length = rows.length + 1 ∧ DCall Tryz.prog 79 [.sl true ((y.map encQ).take rows.length)] out.tr) →
      (∀ u, ans = .inr u → u.length = V' + 1 ∧ ((0 < u.getD V' 0 ∧ DCall Tryz.prog 70 [.sl true ((u.map encQ).take V'), encQ (u.getD V' 0)] (pointT (pointOf (u.take V') (u.getD V' 0))) ∧ out = ptOf V' u) ∨ (¬ 0 < u.getD V' 0 ∧ DCall Tryz.prog 81 [i64 (V' : Nat), .sl rnn (rows.map Row.tr), row.tr] out.tr))) →
      DCall Tryz.prog 26 [i64 (V' : Nat), .sl rnn (rows.map Row.tr), row.tr] out.tr := by
    intro out _ h1 h2
    have hMl : ((matL V' [row] []).map fun r => Tr.sl true (r.map encQ)).length = V' + 1 := by rw [List.length_map, matL_len]
    have hMi : ∀ i, i ≤ V' → ((matL V' [row] []).map fun r => Tr.sl true (r.map encQ))[i]? = some (.sl true [encQ ((entR row i : Int) : Rat)]) := fun i hi => by rw [List.getElem?_map, hcol i hi]; rfl
    rw [show (!(([row] : List Row).isEmpty && ([] : List (List Rat)).isEmpty)) = true from rfl] at w2
    unfold encM at w2
    have hwV : IntKind.i64.wrap ((V' : Int) + 1) = ((V' + 1 : Nat) : Int) := by rw [wrap_i64 (by omega) (by omega)]; rfl
    obtain ⟨W, hW⟩ : ∃ W, V' + 1 = W := ⟨_, rfl⟩
    rw [hW] at hwV hMl
    refine dcall_mk orders Tryz.func26 rfl (by kernel_rfl) (fun d => d == 6 || d == 33 || d == 39 || d == 47) (by kernel_rfl) rfl (fun hs => ?_)
    clear hs
    repeat' (first
      | (with_reducible first | refine sA ?_ ?_ | refine sB ?_ ?_ | refine sC ?_ ?_ | refine sD ?_ ?_ | refine sE ?_ ?_ | refine sF ?_ ?_) <;> intro h
      | refine clK_mk (w1) rfl ?_
      | refine clK_mk (w2) rfl ?_
      | simp only [go_sem, *, beq_self_eq_true, hnext_nil, hget_new0])
    with_reducible refine hpK_if ?_ ?_
    · exact ⟨by omega, by omega⟩
    repeat' (first
      | (with_reducible first | refine sA ?_ ?_ | refine sB ?_ ?_ | refine sC ?_ ?_ | refine sD ?_ ?_ | refine sE ?_ ?_ | refine sF ?_ ?_) <;> intro h
      | simp only [go_sem, *, beq_self_eq_true, hnext_nil, hnext_new, hget_new0])
    refine loop_range (List.range (W)) (fun k s' => ∃ cur : List Tr, hget s'.hp (33, 0) = some ⟨(flat cur).map .t, 6, W, tRat, true, true⟩ ∧ cur.length = W ∧ (∀ z ∈ cur, elemOK true 6 z) ∧ cur.take k = ((rhsQ row).take k).map encQ ∧ hget s'.hp (6, 0) = some ⟨[.t (.int .u64 0), .t (.sl false [])], 2, 1, tFarkas, true, true⟩) rfl (by rw [List.length_range]; rfl) (by rw [List.length_range]; first | assumption | omega) (by kernel_rfl) (fun _ _ _ _ hj => hj) (fun _ _ _ hj => hj) ?_ (fun j y u hy hyd hj hJ hjx hfr H hH => ?_) (fun u hJ hfr => ?_)
    · refine ⟨List.replicate W (.agg qz), ?_, by simp, fun z hz => by rw [(List.mem_replicate.1 hz).2]; exact ⟨fun _ => rfl, (fun h => nomatch h), rfl⟩, rfl, rfl⟩
      rw [← zrow_flat]; rfl
    · have e11 := hfr 11 (by kernel_rfl)
      have e12 := hfr 12 (by kernel_rfl)
      clear hfr
      simp only [go_sem] at e11 e12
      obtain ⟨cur, g, hcul, hok, htk, g6⟩ := hJ
      rw [List.length_range] at hj
      have hyj : y = j := by rw [List.getElem?_range hj] at hy; injection hy with hy; exact hy.symm
      subst hyj
      clear hy hyd
      have hmy := hMi y (by omega)
      have hry := hrg y (by omega)
      generalize ((entR row y : Int) : Rat) = q at *
      obtain ⟨z, hz, _⟩ := get_of_lt cur y (by omega)
      have he6 : ∀ z ∈ cur, z.cells.length = 6 := fun z hz => (hok z hz).2.2
      have hspl : splice (List.map PV.t (flat cur)) (y * 6) ((ratC q).map PV.t) = List.map PV.t (flat (cur.set y (encQ q))) := flat_splice he6 (x := z) (y := encQ q) hz (ratC_length _)
      have hfl6 : (flat cur).length = W * 6 := by rw [flat_length _ 6 he6, hcul]
      have hy6 : y * 6 + 6 ≤ W * 6 := by omega
      have hq0 : (ratC q).length = 6 := ratC_length _
      clear hMi hMl hrg hcol hW hwV
      repeat' (first
        | (with_reducible first | refine sA ?_ ?_ | refine sB ?_ ?_ | refine sC ?_ ?_ | refine sD ?_ ?_ | refine sE ?_ ?_ | refine sF ?_ ?_) <;> intro h
        | simp only [go_sem, *, beq_self_eq_true])
      refine hH _ ⟨cur.set y (encQ q), ?_, by simp [hcul], ?_, ?_, ?_⟩
      · exact set_same g _
      · intro w hw
        rcases List.mem_or_eq_of_mem_set hw with hw | rfl
        · exact hok w hw
        · exact ok_encQ _
      · rw [take_set_succ _ _ _ (by omega), htk, List.take_add_one, List.map_append, hry]; rfl
      · exact set_other g6 (.inl rfl) _
    · have e0 := hfr 0 (by kernel_rfl)
      have e1 := hfr 1 (by kernel_rfl)
      have e5 := hfr 5 (by kernel_rfl)
      have e6 := hfr 6 (by kernel_rfl)
      have e12 := hfr 12 (by kernel_rfl)
      clear hfr
      simp only [go_sem] at e0 e1 e5 e6 e12
      obtain ⟨cur, g, hcul, hok, htk, g6⟩ := hJ
      rw [List.length_range, List.take_of_length_le (by omega), List.take_of_length_le (by omega)] at htk
      have hdep : toTr u.hp dep (.rf (33, 0) W) = some (.sl true ((rhsQ row).map encQ)) := by rw [← htk]; exact toTr_flat 5 hok hcul g
      have g6f := frz_other g6 (ids := reach u.hp dep (.rf (33, 0) W)) (by
        rw [show reach u.hp dep (.rf (33, 0) W) = [(33, 0)] from reach_row 5 g]; rfl)
      clear hMi hMl hrg hcol hwV g g6 htk hok
      cases ans with
      | inl y =>
        obtain ⟨hyl, hy⟩ := h1 y rfl
        obtain ⟨C, P, Q, E, hsh⟩ := out.shape
        rw [hsh] at hy ⊢
        have hfly := rat_len y
        clear h1 h2
        unfold encAns at hd
        simp only at hd
        repeat' (first
          | (with_reducible first | refine sA ?_ ?_ | refine sB ?_ ?_ | refine sC ?_ ?_ | refine sD ?_ ?_ | refine sE ?_ ?_ | refine sF ?_ ?_) <;> intro h
          | refine clK_mk (w3) rfl ?_
          | refine clK_mk (wu) rfl ?_
          | simp only [go_sem, *])
        refine clK_fz hd (by simp only [go_sem, hdep]) rfl ?_
        simp only [List.flatMap_cons, List.flatMap_nil, List.append_nil, reach_t, List.nil_append]
        generalize frz _ _ = HF at *
        repeat' (first
          | (with_reducible first | refine sA ?_ ?_ | refine sB ?_ ?_ | refine sC ?_ ?_ | refine sD ?_ ?_ | refine sE ?_ ?_ | refine sF ?_ ?_) <;> intro h
          | simp only [go_sem, *])
        with_reducible refine hpK_if ?_ ?_
        · omega
        repeat' (first
          | (with_reducible first | refine sA ?_ ?_ | refine sB ?_ ?_ | refine sC ?_ ?_ | refine sD ?_ ?_ | refine sE ?_ ?_ | refine sF ?_ ?_) <;> intro h
          | refine clK_mk (hy) rfl ?_
          | simp only [go_sem, *])
      | inr u' =>
        obtain ⟨hul, hcase⟩ := h2 u' rfl
        have hq : (u'.map encQ)[V']? = some (encQ (u'.getD V' 0)) := by
          rw [List.getElem?_map, List.getD_eq_getElem?_getD, List.getElem?_eq_getElem (by omega)]; rfl
        have sg := qsign_d (u'.getD V' 0)
        have hflu : (flat (u'.map encQ)).length = u'.length * 6 := rat_len u'
        unfold encAns at hd
        simp only at hd
        clear h1 h2
        rcases hcase with ⟨hpos, hp, ho⟩ | ⟨hpos, hf⟩
        · rw [sign_pos hpos] at sg
          have g1 : decide ((1 : Int) > 0) = true := rfl
          subst ho
          unfold ptOf
          clear hpos
          generalize u'.getD V' 0 = b at *
          unfold pointT at hp
          cases hpo : pointOf (u'.take V') b with
          | some q =>
            rw [hpo] at hp
            simp only at hp
            repeat' (first
              | (with_reducible first | refine sA ?_ ?_ | refine sB ?_ ?_ | refine sC ?_ ?_ | refine sD ?_ ?_ | refine sE ?_ ?_ | refine sF ?_ ?_) <;> intro h
              | refine clK_mk (w3) rfl ?_
              | refine clK_mk (wu) rfl ?_
              | simp only [go_sem, *])
            refine clK_fz hd (by simp only [go_sem, hdep]) rfl ?_
            simp only [List.flatMap_cons, List.flatMap_nil, List.append_nil, reach_t, List.nil_append]
            generalize frz _ _ = HF at *
            repeat' (first
              | (with_reducible first | refine sA ?_ ?_ | refine sB ?_ ?_ | refine sC ?_ ?_ | refine sD ?_ ?_ | refine sE ?_ ?_ | refine sF ?_ ?_) <;> intro h
              | refine clK_mk (sg) rfl ?_
              | simp only [go_sem, *])
            with_reducible refine hpK_if ?_ ?_
            · omega
            repeat' (first
              | (with_reducible first | refine sA ?_ ?_ | refine sB ?_ ?_ | refine sC ?_ ?_ | refine sD ?_ ?_ | refine sE ?_ ?_ | refine sF ?_ ?_) <;> intro h
              | refine clK_mk (hp) rfl ?_
              | simp only [go_sem, *])
            all_goals rfl
          | none =>
            rw [hpo] at hp
            simp only at hp
            repeat' (first
              | (with_reducible first | refine sA ?_ ?_ | refine sB ?_ ?_ | refine sC ?_ ?_ | refine sD ?_ ?_ | refine sE ?_ ?_ | refine sF ?_ ?_) <;> intro h
              | refine clK_mk (w3) rfl ?_
              | refine clK_mk (wu) rfl ?_
              | simp only [go_sem, *])
            refine clK_fz hd (by simp only [go_sem, hdep]) rfl ?_
            simp only [List.flatMap_cons, List.flatMap_nil, List.append_nil, reach_t, List.nil_append]
            generalize frz _ _ = HF at *
            repeat' (first
              | (with_reducible first | refine sA ?_ ?_ | refine sB ?_ ?_ | refine sC ?_ ?_ | refine sD ?_ ?_ | refine sE ?_ ?_ | refine sF ?_ ?_) <;> intro h
              | refine clK_mk (sg) rfl ?_
              | simp only [go_sem, *])
            with_reducible refine hpK_if ?_ ?_
            · omega
            repeat' (first
              | (with_reducible first | refine sA ?_ ?_ | refine sB ?_ ?_ | refine sC ?_ ?_ | refine sD ?_ ?_ | refine sE ?_ ?_ | refine sF ?_ ?_) <;> intro h
              | refine clK_mk (hp) rfl ?_
              | simp only [go_sem, *])
            all_goals rfl
        · have g1 : decide ((u'.getD V' 0).num.sign > 0) = false := by
            have := sign_npos hpos
            simp only [decide_eq_true_eq] at this
            exact decide_eq_false (by omega)
          obtain ⟨C, P, Q, E, hsh⟩ := out.shape
          rw [hsh] at hf ⊢
          clear hpos
          generalize u'.getD V' 0 = b at *
          repeat' (first
            | (with_reducible first | refine sA ?_ ?_ | refine sB ?_ ?_ | refine sC ?_ ?_ | refine sD ?_ ?_ | refine sE ?_ ?_ | refine sF ?_ ?_) <;> intro h
            | refine clK_mk (w3) rfl ?_
            | refine clK_mk (wu) rfl ?_
            | simp only [go_sem, *])
          refine clK_fz hd (by simp only [go_sem, hdep]) rfl ?_
          simp only [List.flatMap_cons, List.flatMap_nil, List.append_nil, reach_t, List.nil_append]
          generalize frz _ _ = HF at *
          repeat' (first
            | (with_reducible first | refine sA ?_ ?_ | refine sB ?_ ?_ | refine sC ?_ ?_ | refine sD ?_ ?_ | refine sE ?_ ?_ | refine sF ?_ ?_) <;> intro h
            | refine clK_mk (sg) rfl ?_
            | refine clK_mk (hf) rfl ?_
            | simp only [go_sem, *])
  cases ans with
  | inl y =>
    have hyl : y.length = rows.length + 1 := by
      unfold RightA at ha
      rw [matL_head] at ha
      simpa using ha.1
    have hy0 : ∀ x ∈ y, 0 ≤ x := by
      unfold RightA at ha
      rw [matL_head] at ha
      exact all_nonneg (by simpa using ha.1) ha.2.1
    have hok := imp_inl hr hr1 ha' hmod
    have hc := certificate_s hN (hA.over.sub (l' := y.take rows.length) (fun x hx => List.mem_of_mem_take hx)) (by simp; omega) (fun x hx => hy0 x (List.mem_of_mem_take hx))
    rw [List.map_take] at hc
    exact ⟨_, hok, hkey _ hok (fun y' h => by injection h with h; subst h; exact ⟨hyl, hc⟩) (fun u h => nomatch h)⟩
  | inr u =>
    obtain ⟨hul, _, hu0, _⟩ := imp_inr hr hr1 ha'
    have hFB := hA.over.FB
    by_cases hpos : 0 < u.getD V' 0
    · have hok := imp_pt hr hr1 ha' hpos hmod
      have hp := point_s true (l := u.take V') (b := u.getD V' 0) hN (fun x hx => hFB x (List.mem_of_mem_take hx)) (hFB _ (by show u.getD V' 0 ∈ u; exact getD_mem (by omega))) hpos (by simp; omega)
      rw [List.map_take] at hp
      exact ⟨_, hok, hkey _ hok (fun y h => nomatch h) (fun u' h => by injection h with h; subst h; exact ⟨hul, .inl ⟨hpos, hp, rfl⟩⟩)⟩
    · obtain ⟨so, hso, hsd⟩ := solve_d (V := V') rnn (sysErr_left he)
      have hbc : ∀ r ∈ rows ++ [below row], r.coefs.length = V' ∧ r.const.natAbs ≤ 1048577 ∧ ∀ c ∈ r.coefs, c.natAbs ≤ 1048577 := fun r h => by
        rcases List.mem_append.1 h with h | h
        · exact hrc r h
        · rw [List.mem_singleton.1 h]
          have := smallB_abs hr2
          refine ⟨by simp [below, hr1], by simp only [below]; omega, fun c hc => ?_⟩
          obtain ⟨a, ha, rfl⟩ := List.mem_map.1 hc
          have := smallB_abs (hr3 a ha)
          omega
      obtain ⟨ans2, N2, hN2, ha2, hA2, hmod2, hd2⟩ := nonneg_sys (V := V') (C := 1048577) (rows := rows ++ [below row]) (more := []) (rhs := unitL V' (-1)) true (by decide) (by decide) hV (by simp; omega) hbc (fun c hc => by simp at hc) (unit_B (by decide)) (unitL_len _ _) (modestB V' (rows ++ [row]) = true) (fun h => by
        obtain ⟨h1, h2⟩ := modest_row h
        refine ⟨h1, fun r hr => ?_, fun c hc => by simp at hc, unit_B (by decide)⟩
        rcases List.mem_append.1 hr with hr | hr
        · exact ⟨by have := (h2 r (by simp [hr])).1; omega, fun c hc => by have := (h2 r (by simp [hr])).2 c hc; omega⟩
        · rw [List.mem_singleton.1 hr]
          obtain ⟨h3, h4⟩ := h2 row (by simp)
          refine ⟨by simp only [below]; omega, fun c hc => ?_⟩
          obtain ⟨a, ha, rfl⟩ := List.mem_map.1 hc
          have := h4 a ha
          omega)
      cases so with
      | lim =>
        have hok : ImpOk V' rows row .lim := by
          show modestB V' (rows ++ [row]) = false
          rw [Bool.eq_false_iff]
          intro h
          have h1 : modestB V' rows = false := hso
          rw [modest_left h] at h1; cases h1
        have hf := far_s rnn hnn he hsd hso hN2 hA2 (w := []) (fun p h => nomatch h) hd2
        exact ⟨_, hok, hkey _ hok (fun y h => nomatch h) (fun u' h => by injection h with h; subst h; exact ⟨hul, .inr ⟨hpos, hf⟩⟩)⟩
      | ml ms =>
        have hok := imp_zero (row := row) hso
        have hf := far_s rnn hnn he hsd hso hN2 hA2 (w := []) (fun p h => nomatch h) hd2
        exact ⟨_, hok, hkey _ hok (fun y h => nomatch h) (fun u' h => by injection h with h; subst h; exact ⟨hul, .inr ⟨hpos, hf⟩⟩)⟩
      | pt p =>
        obtain ⟨p1, _, p3⟩ := hso
        obtain ⟨w, e1, e2, e3, hok⟩ := imp_far hr hr1 ha' hpos p1 p3 ha2 hmod2
        have hf := far_s rnn hnn he hsd ⟨p1, ‹_›, p3⟩ hN2 hA2 (w := w) (fun p h => ⟨e1, e2, e3⟩) hd2
        exact ⟨_, hok, hkey _ hok (fun y h => nomatch h) (fun u' h => by injection h with h; subst h; exact ⟨hul, .inr ⟨hpos, hf⟩⟩)⟩
end YtihgdplbehempaaGreat
end Go.Vm
end
section
set_option linter.unusedSimpArgs false
set_option maxRecDepth 10000
namespace Go.Vm
open Go Go.Proofs Go.Whole
namespace YtihgdplbehempaaGreat
open Go.Proofs.Tryz
attribute [go_sem] Tryz.results86 Tryz.results32 Tryz.results23
def scaledR (x : RInt) (k : Nat) : RInt := ⟨decide (x.p * k ≠ 0), x.p * k, decide (x.n * k ≠ 0), x.n * k⟩
theorem scaled_d (x : RInt) (k : Nat) (h : x.ok) (hk : k < 18446744073709551616) : DCall Tryz.prog 86 [x.tr, .int .u64 (k : Int)] (scaledR x k).tr := by
  have t1 := timesN_d x.pn x.p k hk (by have := h.1; omega)
  have t2 := timesN_d x.nn x.n k hk (by have := h.2; omega)
  unfold scaledR
  clear h
  generalize x.p * k = z1 at *
  generalize x.n * k = z2 at *
  generalize decide (z1 ≠ 0) = b1 at *
  generalize decide (z2 ≠ 0) = b2 at *
  refine dcall_mk orders Tryz.func86 rfl (by kernel_rfl) (fun d => d == 4) (by kernel_rfl) rfl (fun hs => ?_)
  clear hs
  repeat' (first
    | (with_reducible first | refine sA ?_ ?_ | refine sB ?_ ?_ | refine sC ?_ ?_ | refine sD ?_ ?_ | refine sE ?_ ?_ | refine sF ?_ ?_) <;> intro h
    | refine clK_mk (t1) rfl ?_
    | refine clK_mk (t2) rfl ?_
    | simp only [go_sem, *])
def stepAt (x : RInt) (b : Nat) (c : Int) (q : RV) : RInt :=
  if (decide (c < 0) != decide (q.num < 0)) = true then { scaledR x q.den.natAbs with nn := decide (x.n * q.den.natAbs + b * q.num.natAbs * c.natAbs ≠ 0), n := x.n * q.den.natAbs + b * q.num.natAbs * c.natAbs }
  else { scaledR x q.den.natAbs with pn := decide (x.p * q.den.natAbs + b * q.num.natAbs * c.natAbs ≠ 0), p := x.p * q.den.natAbs + b * q.num.natAbs * c.natAbs }
def atGo : RInt → Nat → List Int → List RV → RInt
  | x, b, c :: cs, q :: qs => atGo (stepAt x b c q) (b * q.den.natAbs) cs qs
  | x, _, _, _ => x
theorem stepAt_v (x : RInt) (b : Nat) (c : Int) (q : RV) (hd : 1 ≤ q.den) : ((stepAt x b c q).p : Int) - (stepAt x b c q).n = ((x.p : Int) - x.n) * q.den + b * (c * q.num) := by
  have e0 : ((q.den.natAbs : Nat) : Int) = q.den := by omega
  have key : ((b * q.num.natAbs * c.natAbs : Nat) : Int) = if (decide (c < 0) != decide (q.num < 0)) = true then -(b * (c * q.num)) else b * (c * q.num) := by
    rw [Int.natCast_mul, Int.natCast_mul]
    by_cases h1 : c < 0
    · have e1 : ((c.natAbs : Nat) : Int) = -c := by omega
      by_cases h2 : q.num < 0
      · have e2 : ((q.num.natAbs : Nat) : Int) = -q.num := by omega
        simp [h1, h2, e1, e2]; grind
      · have e2 : ((q.num.natAbs : Nat) : Int) = q.num := by omega
        simp [h1, h2, e1, e2]; grind
    · have e1 : ((c.natAbs : Nat) : Int) = c := by omega
      by_cases h2 : q.num < 0
      · have e2 : ((q.num.natAbs : Nat) : Int) = -q.num := by omega
        simp [h1, h2, e1, e2]; grind
      · have e2 : ((q.num.natAbs : Nat) : Int) = q.num := by omega
        simp [h1, h2, e1, e2]; grind
  unfold stepAt
  split
  · rename_i h
    rw [if_pos h] at key
    simp only [scaledR, Int.natCast_add, key, Int.natCast_mul, e0]; grind
  · rename_i h
    rw [if_neg h] at key
    simp only [scaledR, Int.natCast_add, key, Int.natCast_mul, e0]; grind
theorem at_step {n b d c m : Int} (hb : 0 < b) (hd : 0 < d) : ((n * d + b * (c * m) : Int) : Rat) / ((b * d : Int) : Rat) = (n : Rat) / (b : Rat) + (c : Rat) * Rat.divInt m d := by
  have hb' : (b : Rat) ≠ 0 := by simp; omega
  have hd' : (d : Rat) ≠ 0 := by simp; omega
  rw [Rat.divInt_eq_div]
  simp only [Rat.intCast_add, Rat.intCast_mul]
  grind
theorem atGo_v : ∀ (cs : List Int) (qs : List RV) (x : RInt) (b : Nat), 0 < b → (∀ q ∈ qs, ratB q = true) → ∃ b' : Nat, 0 < b' ∧ ((((atGo x b cs qs).p : Int) - (atGo x b cs qs).n : Int) : Rat) / ((b' : Int) : Rat) = (((x.p : Int) - x.n : Int) : Rat) / ((b : Int) : Rat) + dotQ cs (qs.map RV.q)
  | [], qs, x, b, hb, _ => ⟨b, hb, by show (((x.p : Int) - x.n : Int) : Rat) / _ = _ + 0; grind⟩
  | c :: cs, [], x, b, hb, _ => ⟨b, hb, by show (((x.p : Int) - x.n : Int) : Rat) / _ = _ + 0; grind⟩
  | c :: cs, q :: qs, x, b, hb, hq => by
    have h1 := ratB_spec (hq q (by simp))
    have e0 : ((q.den.natAbs : Nat) : Int) = q.den := by omega
    obtain ⟨b', hb', h2⟩ := atGo_v cs qs (stepAt x b c q) (b * q.den.natAbs) (Nat.mul_pos hb (by omega)) (fun z hz => hq z (List.mem_cons_of_mem _ hz))
    refine ⟨b', hb', ?_⟩
    rw [atGo, h2, stepAt_v _ _ _ _ h1.1, List.map_cons, dotQ, Int.natCast_mul, e0, at_step (by omega) (by omega)]
    show _ + (c : Rat) * q.q + _ = _
    grind
theorem neg_iff {n b : Int} (hb : 0 < b) : n < 0 ↔ (n : Rat) / (b : Rat) < 0 := by
  have hb' : (0 : Rat) < (b : Rat) := by exact_mod_cast hb
  rw [Rat.div_lt_iff hb', Rat.zero_mul]
  exact ⟨fun h => by exact_mod_cast h, fun h => by exact_mod_cast h⟩
def atB (k : Nat) (x : RInt) (b : Nat) : Prop := x.p ≤ B ^ (2 * (k + 1)) ∧ x.n ≤ B ^ (2 * (k + 1)) ∧ b ≤ B ^ (2 * k)
theorem len_pow {n k : Nat} (h : n ≤ B ^ (2 * k)) : (digs n).length ≤ 2 * k + 1 := digs_length_le (Nat.lt_of_le_of_lt h (Nat.pow_lt_pow_right (by rw [B_eq]; decide) (Nat.lt_succ_self _)))
theorem big_sum {Y y z : Nat} (hy : y ≤ Y * 85070591730234615865843651857942052864) (hz : z ≤ Y * 4835703278458516698824704) : y + z ≤ Y * 340282366920938463463374607431768211456 ∧ y ≤ Y * 340282366920938463463374607431768211456 := by omega
theorem atB.step {k : Nat} {x : RInt} {b : Nat} {c : Int} {q : RV} (h : atB k x b) (hq : ratB q = true) (hc : c.natAbs ≤ 1048576) : atB (k + 1) (stepAt x b c q) (b * q.den.natAbs) := by
  obtain ⟨h1, h2, h3⟩ := h
  have hs := ratB_spec hq
  have hd : q.den.natAbs ≤ 4611686018427387904 := by omega
  have hn : q.num.natAbs ≤ 4611686018427387904 := by omega
  have k1 : b * q.num.natAbs * c.natAbs ≤ B ^ (2 * k) * 4835703278458516698824704 := by
    rw [Nat.mul_assoc]
    exact Nat.mul_le_mul h3 (Nat.mul_le_mul hn hc)
  have k2 : ∀ y, y ≤ B ^ (2 * (k + 1)) → y * q.den.natAbs ≤ B ^ (2 * k) * 85070591730234615865843651857942052864 := by
    intro y hy
    refine Nat.le_trans (Nat.mul_le_mul hy hd) ?_
    rw [B_pow2 k, Nat.mul_assoc]; exact Nat.le_refl _
  have e4 : B ^ (2 * (k + 1 + 1)) = B ^ (2 * k) * 340282366920938463463374607431768211456 := by rw [B_pow2 (k + 1), B_pow2 k, Nat.mul_assoc]
  have a1 := k2 _ h1
  have a2 := k2 _ h2
  have k3 : ∀ y, y ≤ B ^ (2 * k) * 85070591730234615865843651857942052864 → y + b * q.num.natAbs * c.natAbs ≤ B ^ (2 * k) * 340282366920938463463374607431768211456 ∧ y ≤ B ^ (2 * k) * 340282366920938463463374607431768211456 := fun y hy => big_sum hy k1
  obtain ⟨p1, p2⟩ := k3 _ a1
  obtain ⟨n1, n2⟩ := k3 _ a2
  refine ⟨?_, ?_, ?_⟩
  · rw [e4]; unfold stepAt scaledR; split
    · exact p2
    · exact p1
  · rw [e4]; unfold stepAt scaledR; split
    · exact n1
    · exact n2
  · rw [B_pow2 k]
    exact Nat.mul_le_mul h3 (by omega)
theorem atB.ok {k : Nat} {x : RInt} {b : Nat} (h : atB k x b) (hk : k ≤ 200) : (digs x.p).length ≤ 500 ∧ (digs x.n).length ≤ 500 ∧ (digs b).length ≤ 500 := by
  have h1 := len_pow h.1
  have h2 := len_pow h.2.1
  have h3 := len_pow h.2.2
  omega
def at0 (r : Row) : RInt := withR zR r.const 1
def atR (r : Row) (qs : List RV) : RInt := atGo (at0 r) 1 r.coefs qs
theorem at0_B {r : Row} (hc : smallB r.const = true) : atB 0 (at0 r) 1 := by
  have h1 := smallB_abs hc
  refine ⟨?_, ?_, Nat.le_refl _⟩
  · unfold at0 withR; rw [show B ^ (2 * (0 + 1)) = 18446744073709551616 by decide]; split <;> simp only <;> omega
  · unfold at0 withR; rw [show B ^ (2 * (0 + 1)) = 18446744073709551616 by decide]; split <;> simp only <;> omega
theorem atR_neg (r : Row) (qs : List RV) (hq : ∀ q ∈ qs, ratB q = true) : decide ((atR r qs).p < (atR r qs).n) = decide (rowQ r (qs.map RV.q) < 0) := by
  obtain ⟨b', hb', h⟩ := atGo_v r.coefs qs (at0 r) 1 (by decide) hq
  have e0 : ((at0 r).p : Int) - (at0 r).n = r.const := by
    have := withR_v zR r.const 1
    rw [show at0 r = withR zR r.const 1 from rfl, this]
    show ((0 : Nat) : Int) - ((0 : Nat) : Int) + r.const * ((1 : Nat) : Int) = r.const
    omega
  rw [e0] at h
  have e1 : rowQ r (qs.map RV.q) = (((atR r qs).p : Int) - (atR r qs).n : Int) / ((b' : Int) : Rat) := by
    show _ = ((((atGo (at0 r) 1 r.coefs qs).p : Int) - (atGo (at0 r) 1 r.coefs qs).n : Int) : Rat) / ((b' : Int) : Rat)
    rw [h]; unfold rowQ
    have : (((1 : Nat) : Int) : Rat) = 1 := rfl
    rw [this]; grind
  rw [e1, Bool.eq_iff_iff, decide_eq_true_iff, decide_eq_true_iff, ← neg_iff (by omega)]
  omega
theorem at_d (r : Row) (qn : Bool) (qs : List RV) (hl : qs.length = r.coefs.length) (hlen : r.coefs.length ≤ 128) (hc : smallB r.const = true) (hcs : ∀ c ∈ r.coefs, smallB c = true) (hq : ∀ q ∈ qs, ratB q = true) :
    DCall Tryz.prog 32 [r.tr, .sl qn (qs.map RV.tr)] (atR r qs).tr ∧ (atR r qs).ok := by
  have hend : ∀ k x b, k = r.coefs.length → atB k x b → x.ok := fun k x b hk h => by have := h.ok (k := k) (by omega); exact ⟨by omega, by omega⟩
  constructor
  · have hb0 := at0_B hc
    have hc1 := smallB_abs hc
    have w0 := ofN_d 1 (by decide)
    have w1 := with_d zR r.const true 1 ⟨by omega, by omega⟩ (Nat.le_trans (digs64 (by decide)) (by decide)) (Nat.le_trans (digs64 (m := 0) (by decide)) (by decide)) (Nat.le_trans (digs64 (m := 0) (by decide)) (by decide))
    have hz : zR.tr = .agg [.sl false [], .sl false []] := by unfold RInt.tr; rw [zR_cs]
    rw [hz] at w1
    change DCall _ _ _ (at0 r).tr at w1
    refine dcall_mk orders Tryz.func32 rfl (by kernel_rfl) (fun d => d == 4 || d == 6 || d == 49 || d == 56 || d == 57 || d == 64) (by kernel_rfl) rfl (fun hs => ?_)
    clear hs hz
    repeat' (first
      | (with_reducible first | refine sA ?_ ?_ | refine sB ?_ ?_ | refine sC ?_ ?_ | refine sD ?_ ?_ | refine sE ?_ ?_ | refine sF ?_ ?_) <;> intro h
      | refine clK_mk (w0) rfl ?_
      | refine clK_mk (w1) rfl ?_
      | simp only [go_sem, *])
    refine loop_range r.coefs (fun k s' => ∃ (x : RInt) (b : Nat), hget s'.hp (6, 0) = some ⟨x.cs.map .t, 2, 1, tRInt, true, true⟩ ∧ hget s'.hp (4, 0) = some ⟨[.t (.sl false []), .t (.sl false [])], 2, 1, tRInt, true, true⟩ ∧ s'.sl 5 = .t (natT true b) ∧ 0 < b ∧ atB k x b ∧ atR r qs = atGo x b (r.coefs.drop k) (qs.drop k)) rfl rfl (by first | assumption | omega) (by kernel_rfl) (fun _ _ _ _ hj => hj) (fun _ _ _ hj => hj) ?_ (fun k x s' hx hd hk hJ hix hfr G hG => ?_) (fun s' hJ hfr => ?_)
    · refine ⟨at0 r, 1, rfl, rfl, rfl, by decide, hb0, rfl⟩
    · have c1 := hfr 1 (by kernel_rfl)
      have c6 := hfr 6 (by kernel_rfl)
      have c17 := hfr 17 (by kernel_rfl)
      clear hfr
      simp only [go_sem] at c1 c6 c17
      change _ = PV.ad (6, 0) 1 0 at c6
      obtain ⟨x', b, h6, h4, c5, hbp, hB, hJ⟩ := hJ
      obtain ⟨q, hq1, hq2⟩ := get_of_lt qs k (by omega)
      rw [hd, hq2, atGo] at hJ
      have hqr := hq q (List.mem_of_getElem? hq1)
      have hsp := ratB_spec hqr
      have hxs := smallB_abs (hcs x (List.mem_of_getElem? hx))
      have hok := hB.ok (by omega)
      have hst := hB.step hqr hxs
      have hdw : IntKind.u64.wrap q.den = ((q.den.natAbs : Nat) : Int) := by rw [show q.den = ((q.den.natAbs : Nat) : Int) by omega]; exact wrap_u64_lt (by omega)
      have hd64 : q.den.natAbs < 18446744073709551616 := by omega
      have hn64 : q.num.natAbs < 18446744073709551616 := by omega
      have hx64 : x.natAbs < 18446744073709551616 := by omega
      have s1 := scaled_d x' q.den.natAbs ⟨by omega, by omega⟩ hd64
      have s2 := sizeN_d q.num ⟨by omega, by omega⟩
      have s3 := timesN_d true b q.num.natAbs hn64 (by omega)
      have s4 := sizeN_d x ⟨by omega, by omega⟩
      have l3 : (digs (b * q.num.natAbs)).length ≤ 503 := len_mul (n := 2) (m := 501) (by omega) (digs64 hn64)
      have s5 := timesN_d (decide (b * q.num.natAbs ≠ 0)) (b * q.num.natAbs) x.natAbs hx64 (by omega)
      have l5 : (digs (b * q.num.natAbs * x.natAbs)).length ≤ 505 := len_mul (n := 2) (m := 503) l3 (digs64 hx64)
      have lp : (digs (x'.p * q.den.natAbs)).length ≤ 502 := len_mul (n := 2) (m := 500) (by omega) (digs64 hd64)
      have ln : (digs (x'.n * q.den.natAbs)).length ≤ 502 := len_mul (n := 2) (m := 500) (by omega) (digs64 hd64)
      have s6 := timesN_d true b q.den.natAbs hd64 (by omega)
      have hbd : 0 < b * q.den.natAbs := Nat.mul_pos hbp (by omega)
      rw [show decide (b * q.den.natAbs ≠ 0) = true from decide_eq_true (by omega)] at s6
      by_cases hsg : (decide (x < 0) != decide (q.num < 0)) = true
      · have s7 := plusN_d (decide (x'.n * q.den.natAbs ≠ 0)) (decide (b * q.num.natAbs * x.natAbs ≠ 0)) (x'.n * q.den.natAbs) (b * q.num.natAbs * x.natAbs) (by omega) (by omega)
        have e : stepAt x' b x q = { scaledR x' q.den.natAbs with nn := decide (x'.n * q.den.natAbs + b * q.num.natAbs * x.natAbs ≠ 0), n := x'.n * q.den.natAbs + b * q.num.natAbs * x.natAbs } := if_pos hsg
        rw [e] at hJ hst
        clear e l3 l5 lp ln hok hxs hsp
        unfold scaledR at *
        generalize b * q.num.natAbs * x.natAbs = z3 at *
        generalize b * q.num.natAbs = z2 at *
        generalize x'.n * q.den.natAbs = z1 at *
        generalize x'.p * q.den.natAbs = z0 at *
        generalize hbb : b * q.den.natAbs = b' at *
        clear hbb
        generalize decide (z1 + z3 ≠ 0) = f1 at *
        generalize decide (z0 ≠ 0) = f2 at *
        generalize decide (z1 ≠ 0) = f3 at *
        generalize decide (z2 ≠ 0) = f4 at *
        generalize decide (z3 ≠ 0) = f5 at *
        generalize z1 + z3 = z4 at *
        clear hB hq hcs hbp
        repeat' (first
          | (with_reducible first | refine sA ?_ ?_ | refine sB ?_ ?_ | refine sC ?_ ?_ | refine sD ?_ ?_ | refine sE ?_ ?_ | refine sF ?_ ?_) <;> intro h
          | refine clK_mk (s1) rfl ?_
          | refine clK_mk (s2) rfl ?_
          | refine clK_mk (s3) rfl ?_
          | refine clK_mk (s4) rfl ?_
          | refine clK_mk (s5) rfl ?_
          | refine clK_mk (s6) rfl ?_
          | refine clK_mk (s7) rfl ?_
          | simp only [go_sem, *])
        refine hG _ ⟨⟨f2, z0, f1, z4⟩, b', ?_, ?_, rfl, hbd, hst, hJ⟩
        · simp only [go_sem, h6]
        · simp only [go_sem, h4]
      · have s7 := plusN_d (decide (x'.p * q.den.natAbs ≠ 0)) (decide (b * q.num.natAbs * x.natAbs ≠ 0)) (x'.p * q.den.natAbs) (b * q.num.natAbs * x.natAbs) (by omega) (by omega)
        have e : stepAt x' b x q = { scaledR x' q.den.natAbs with pn := decide (x'.p * q.den.natAbs + b * q.num.natAbs * x.natAbs ≠ 0), p := x'.p * q.den.natAbs + b * q.num.natAbs * x.natAbs } := if_neg hsg
        rw [e] at hJ hst
        have hsg' := Bool.eq_false_iff.2 hsg
        clear e l3 l5 lp ln hok hxs hsp hsg
        unfold scaledR at *
        generalize b * q.num.natAbs * x.natAbs = z3 at *
        generalize b * q.num.natAbs = z2 at *
        generalize x'.n * q.den.natAbs = z1 at *
        generalize x'.p * q.den.natAbs = z0 at *
        generalize hbb : b * q.den.natAbs = b' at *
        clear hbb
        generalize decide (z0 + z3 ≠ 0) = f1 at *
        generalize decide (z0 ≠ 0) = f2 at *
        generalize decide (z1 ≠ 0) = f3 at *
        generalize decide (z2 ≠ 0) = f4 at *
        generalize decide (z3 ≠ 0) = f5 at *
        generalize z0 + z3 = z4 at *
        clear hB hq hcs hbp
        repeat' (first
          | (with_reducible first | refine sA ?_ ?_ | refine sB ?_ ?_ | refine sC ?_ ?_ | refine sD ?_ ?_ | refine sE ?_ ?_ | refine sF ?_ ?_) <;> intro h
          | refine clK_mk (s1) rfl ?_
          | refine clK_mk (s2) rfl ?_
          | refine clK_mk (s3) rfl ?_
          | refine clK_mk (s4) rfl ?_
          | refine clK_mk (s5) rfl ?_
          | refine clK_mk (s6) rfl ?_
          | refine clK_mk (s7) rfl ?_
          | simp only [go_sem, *])
        refine hG _ ⟨⟨f1, z4, f3, z1⟩, b', ?_, ?_, rfl, hbd, hst, hJ⟩
        · simp only [go_sem, h6]
        · simp only [go_sem, h4]
    · have c4 := hfr 4 (by kernel_rfl)
      have c6 := hfr 6 (by kernel_rfl)
      clear hfr
      simp only [go_sem] at c4 c6
      change _ = PV.ad (6, 0) 1 0 at c6
      change _ = PV.ad (4, 0) 1 0 at c4
      obtain ⟨x', b, h6, h4, c5, hbp, hB, hJ⟩ := hJ
      have hJ' : atR r qs = x' := by rw [hJ, List.drop_length]; rfl
      rw [hJ']
      clear hJ hJ'
      repeat' (first
        | (with_reducible first | refine sA ?_ ?_ | refine sB ?_ ?_ | refine sC ?_ ?_ | refine sD ?_ ?_ | refine sE ?_ ?_ | refine sF ?_ ?_) <;> intro h
        | simp only [go_sem, *])
  · have key : ∀ (cs : List Int) (qs : List RV) (k : Nat) (x : RInt) (b : Nat), (∀ c ∈ cs, smallB c = true) → (∀ q ∈ qs, ratB q = true) → atB k x b → k + cs.length ≤ 200 → (atGo x b cs qs).ok := by
      intro cs
      induction cs with
      | nil => intro qs k x b _ _ h hk; have := h.ok (by simpa using hk); exact ⟨by show (digs x.p).length ≤ _; omega, by show (digs x.n).length ≤ _; omega⟩
      | cons c cs ih =>
        intro qs k x b h1 h2 h hk
        cases qs with
        | nil => have := h.ok (by omega); exact ⟨by show (digs x.p).length ≤ _; omega, by show (digs x.n).length ≤ _; omega⟩
        | cons q qs => exact ih qs (k + 1) _ _ (fun z hz => h1 z (List.mem_cons_of_mem _ hz)) (fun z hz => h2 z (List.mem_cons_of_mem _ hz)) (h.step (h2 q (by simp)) (smallB_abs (h1 c (by simp)))) (by simp only [List.length_cons] at hk; omega)
    exact key r.coefs qs 0 _ _ hcs hq (at0_B hc) (by omega)
theorem refHolds_d (rnn : Bool) (rows : List Row) (qn : Bool) (qs : List RV) (hr : ∀ r ∈ rows, qs.length = r.coefs.length ∧ smallB r.const = true ∧ ∀ c ∈ r.coefs, smallB c = true) (hV : qs.length ≤ 128) (hlen : rows.length ≤ 1000000) (hq : ∀ q ∈ qs, ratB q = true) :
    DCall Tryz.prog 23 [.sl rnn (rows.map Row.tr), .sl qn (qs.map RV.tr)] (.bool (rows.all (fun r => !decide (rowQ r (qs.map RV.q) < 0)))) := by
  refine dcall_mk orders Tryz.func23 rfl (by kernel_rfl) (fun d => d == 6) (by kernel_rfl) rfl (fun hs => ?_)
  clear hs
  generalize hR : rows.all (fun r => !decide (rowQ r (qs.map RV.q) < 0)) = R
  repeat' (first
    | (with_reducible first | refine sA ?_ ?_ | refine sB ?_ ?_ | refine sC ?_ ?_ | refine sD ?_ ?_ | refine sE ?_ ?_ | refine sF ?_ ?_) <;> intro h
    | simp only [go_sem, *])
  refine loop_range rows (fun k s' => (rows.drop k).all (fun r => !decide (rowQ r (qs.map RV.q) < 0)) = R) rfl rfl (by first | assumption | omega) (by kernel_rfl) (fun _ _ _ _ hj => hj) (fun _ _ _ hj => hj) ?_ (fun k x s' hx hd hk hJ hix hfr G hG => ?_) (fun s' hJ hfr => ?_)
  · exact hR
  · have c1 := hfr 1 (by kernel_rfl)
    have c7 := hfr 7 (by kernel_rfl)
    clear hfr
    simp only [go_sem] at c1 c7
    obtain ⟨h1, h2, h3⟩ := hr x (List.mem_of_getElem? hx)
    obtain ⟨a1, a2⟩ := at_d x qn qs h1 (by omega) h2 h3 hq
    have a3 := negative_d (atR x qs) a2
    rw [atR_neg x qs hq] at a3
    generalize atR x qs = y at *
    rw [hd, List.all_cons] at hJ
    cases hb : decide (rowQ x (qs.map RV.q) < 0) with
    | true =>
      rw [hb] at hJ a3
      have hJ' : R = false := by rw [← hJ]; rfl
      subst hJ'
      clear hJ hb hR hr hq
      repeat' (first
        | (with_reducible first | refine sA ?_ ?_ | refine sB ?_ ?_ | refine sC ?_ ?_ | refine sD ?_ ?_ | refine sE ?_ ?_ | refine sF ?_ ?_) <;> intro h
        | refine clK_mk (a1) rfl ?_
        | refine clK_mk (a3) rfl ?_
        | simp only [go_sem, *])
    | false =>
      rw [hb] at hJ a3
      clear hb hR hr hq
      repeat' (first
        | (with_reducible first | refine sA ?_ ?_ | refine sB ?_ ?_ | refine sC ?_ ?_ | refine sD ?_ ?_ | refine sE ?_ ?_ | refine sF ?_ ?_) <;> intro h
        | refine clK_mk (a1) rfl ?_
        | refine clK_mk (a3) rfl ?_
        | simp only [go_sem, *])
      refine hG _ ?_
      rw [← hJ]; rfl
  · rw [List.drop_length] at hJ
    have hJ' : R = true := by rw [← hJ]; rfl
    subst hJ'
    have c1 := hfr 1 (by kernel_rfl)
    clear hfr
    simp only [go_sem] at c1
    clear hJ hR
    repeat' (first
      | (with_reducible first | refine sA ?_ ?_ | refine sB ?_ ?_ | refine sC ?_ ?_ | refine sD ?_ ?_ | refine sE ?_ ?_ | refine sF ?_ ?_) <;> intro h
      | simp only [go_sem, *])
end YtihgdplbehempaaGreat
end Go.Vm
end
section
namespace Go.Vm
open Go
section
variable (P : Program)
abbrev Caller := (Nat → Bool) → Bool → Oper → St → FuncId → List PV → Option St
def xG (call : Caller) (mu : Nat → Bool) (dr : Bool) (all : List Oper) (o : Oper) (s : St) : Option St :=
  match guardRun all s.sl o with
  | some true => match callPart s.sl o with
    | some (some (g, args)) => call mu dr o s g args
    | some none => none
    | none => if dr && !bare mu o s.sl then none else match evalOp P mu o s with
      | some (v, h) => some (St.put { s with hp := h } o.dst v)
      | none => none
  | some false => some (St.put s o.dst .skip)
  | none => none
def xOps (call : Caller) (mu : Nat → Bool) (dr : Bool) (all : List Oper) : List Oper → St → Option St
  | [], s => some s
  | o :: r, s => match xG P call mu dr all o s with
    | some s' => xOps call mu dr all r s'
    | none => none
def xLoop (f : St → Option (Ex × St)) : Nat → St → Option (Ex × St)
  | 0, _ => none
  | n + 1, s => match f s with
    | some (.normal, s') => xLoop f n s'
    | r => r
def xRun (call : Caller) (mu : Nat → Bool) (n : Nat) : Code → St → Option (Ex × St)
  | .skip, s => some (.normal, s)
  | .ret, s => some (.ret, s)
  | .exit k, s => some (.exit k, s)
  | .region _ ops dr, s => match xOps P call mu dr ops.toList ops.toList s with
    | some s' => some (.normal, s')
    | none => none
  | .seq a b, s => match xRun call mu n a s with
    | some (.normal, s') => xRun call mu n b s'
    | r => r
  | .cond c a b, s => match boolOf (ev s.sl c) with
    | some true => xRun call mu n a s
    | some false => xRun call mu n b s
    | none => none
  | .block id b, s => match xRun call mu n b s with
    | some (.exit k, s') => if k = id then some (.normal, s') else some (.exit k, s')
    | r => r
  | .loop b, s => xLoop (fun s => xRun call mu n b s) n s
  | _, _ => none
structure Fn where
  id : FuncId
  fn : Func
  code : Code
  mu : Nat → Bool
  sh : Bool
def Fn.Ok (f : Fn) : Prop := P.funcs[f.id]? = some f.fn ∧ f.fn.body = some f.code ∧ (f.fn.name == "runtime.NumGoroutine") = false ∧ codeOK f.mu f.fn.ntmps f.code = true
def findFn (g : FuncId) : List Fn → Option Fn
  | [] => none
  | f :: r => if f.id = g then some f else findFn g r
theorem findFn_some {g : FuncId} : ∀ {l : List Fn} {f : Fn}, findFn g l = some f → f ∈ l ∧ f.id = g
  | [], f, h => by simp [findFn] at h
  | x :: r, f, h => by
    simp only [findFn] at h
    split at h
    · rename_i e; cases h; exact ⟨by simp, e⟩
    · obtain ⟨h1, h2⟩ := findFn_some h; exact ⟨by simp [h1], h2⟩
variable (orc : FuncId → List Tr → Option Tr) (fs : List Fn)
mutual
def xPure : Nat → FuncId → List Tr → Option Tr
  | 0, _, _ => none
  | n + 1, g, ts => match orc g ts with
    | some r => some r
    | none => match findFn g fs with
      | some f => if ts.length ≤ f.fn.ntmps then (match xRun P (xCall n) f.mu 1000 f.code (initSt ts) with
        | some (.exit _, _) => none
        | some (_, s) => resTr P s f.fn.results.toList
        | none => none) else none
      | none => none
def xShared : Nat → FuncId → List PV → Hp → Option (PV × Hp)
  | 0, _, _, _ => none
  | n + 1, g, args, h => match findFn g fs with
    | some f => if f.sh = true ∧ args.length ≤ f.fn.ntmps then (match xRun P (xCall n) f.mu 1000 f.code (initStI args h) with
      | some (.exit _, _) => none
      | some (_, s) => match resI P s f.fn.results.toList with
        | some r => some (r, s.hp)
        | none => none
      | none => none) else none
    | none => none
def xCall : Nat → Caller
  | 0, _, _, _, _, _, _ => none
  | n + 1, mu, dr, o, s, g, args => match xShared n g args s.hp with
    | some (v, h) => if dr && !(fatB mu o.dst && !mu 4999999) then none else some (St.put { s with hp := h } o.dst v)
    | none => match mapO (toTr s.hp dep) args with
      | some ts => match xPure n g ts with
        | some r => if dr then (match trees args with
            | some _ => some (St.put s o.dst (.t r))
            | none => if fatB mu o.dst && !mu 4999999 then some (St.put { s with hp := frz s.hp (args.flatMap (reach s.hp dep)) } o.dst (.t r)) else none)
          else if r.scalar then some (St.put s o.dst (.t r)) else some (St.put { s with hp := frz s.hp (args.flatMap (reach s.hp dep)) } o.dst (.t r))
        | none => none
      | none => none
end
variable {P orc fs}
def CallOk (P : Program) (call : Caller) : Prop := ∀ mu dr o s g args s', call mu dr o s g args = some s' → ∀ K : St → Prop, K s' → callW P mu dr o s g args K
theorem xG_sound {call : Caller} (hc : CallOk P call) {mu : Nat → Bool} {dr : Bool} {all : List Oper} {o : Oper} {s s' : St} (h : xG P call mu dr all o s = some s') (K : St → Prop) (hK : K s') : opG P mu dr all o s K := by
  unfold xG at h
  unfold opG
  split at h
  · rename_i hg
    rw [hg]
    refine ⟨fun _ => ?_, fun h => by cases h⟩
    unfold opW
    split at h
    · rename_i g args hp
      rw [hp]
      exact hc _ _ _ _ _ _ _ h K hK
    · cases h
    · rename_i hp
      rw [hp]
      unfold plainW
      cases hnp : nextPart s.sl o with
      | some p =>
        have he : evalOp P mu o s = none := by
          unfold nextPart at hnp
          split at hnp
          · rename_i x hop; unfold evalOp; simp only [hop]
          · cases hnp
        rw [he] at h
        split at h <;> cases h
      | none =>
      simp only
      split at h
      · cases h
      · rename_i hb
        refine ⟨fun hd => ?_, ?_⟩
        · cases hbb : bare mu o s.sl with
          | true => rfl
          | false => rw [hd, hbb] at hb; exact absurd rfl hb
        · split at h
          · rename_i v hh he
            cases h
            rw [he]; exact hK
          · cases h
  · rename_i hg
    rw [hg]
    cases h
    exact ⟨fun h => (nomatch h), fun _ => hK⟩
  · cases h
theorem xOps_sound {call : Caller} (hc : CallOk P call) {mu : Nat → Bool} {dr : Bool} {all : List Oper} : ∀ (l : List Oper) (s s' : St), xOps P call mu dr all l s = some s' → ∀ K : St → Prop, K s' → opsW P mu dr all l s K
  | [], s, s', h, K, hK => by simp only [xOps, Option.some.injEq] at h; subst h; exact hK
  | o :: r, s, s', h, K, hK => by
    simp only [xOps] at h
    split at h
    · rename_i s1 h1
      exact xG_sound hc h1 _ (xOps_sound hc r s1 s' h K hK)
    · cases h
theorem xRun_sound {call : Caller} (hc : CallOk P call) {mu : Nat → Bool} {n : Nat} : ∀ (c : Code) (s : St) (e : Ex) (s' : St), xRun P call mu n c s = some (e, s') → ∀ K : Ex → St → Prop, K e s' → wp P mu c s K := by
  intro c
  induction c with
  | skip => intro s e s' h K hK; simp only [xRun, Option.some.injEq, Prod.mk.injEq] at h; obtain ⟨rfl, rfl⟩ := h; exact hK
  | ret => intro s e s' h K hK; simp only [xRun, Option.some.injEq, Prod.mk.injEq] at h; obtain ⟨rfl, rfl⟩ := h; exact hK
  | exit k => intro s e s' h K hK; simp only [xRun, Option.some.injEq, Prod.mk.injEq] at h; obtain ⟨rfl, rfl⟩ := h; exact hK
  | region id ops dr =>
    intro s e s' h K hK
    simp only [xRun] at h
    split at h
    · rename_i s1 h1
      simp only [Option.some.injEq, Prod.mk.injEq] at h; obtain ⟨rfl, rfl⟩ := h
      exact xOps_sound hc _ _ _ h1 _ hK
    · cases h
  | seq a b iha ihb =>
    intro s e s' h K hK
    simp only [xRun] at h
    simp only [wp]
    split at h
    · rename_i s1 h1
      exact iha _ _ _ h1 _ (ihb _ _ _ h K hK)
    · rename_i hne
      refine iha _ _ _ h _ ?_
      cases e with
      | normal => exact absurd h (hne s')
      | exit k => exact hK
      | ret => exact hK
  | cond c a b iha ihb =>
    intro s e s' h K hK
    simp only [xRun] at h
    simp only [wp]
    split at h
    · rename_i hb; rw [hb]; exact ⟨fun _ => iha _ _ _ h K hK, fun h => by cases h⟩
    · rename_i hb; rw [hb]; exact ⟨fun h => (nomatch h), fun _ => ihb _ _ _ h K hK⟩
    · cases h
  | block id b ih =>
    intro s e s' h K hK
    simp only [xRun] at h
    simp only [wp]
    split at h
    · rename_i k s1 h1
      refine ih _ _ _ h1 _ ?_
      simp only
      split at h
      · rename_i hk
        simp only [Option.some.injEq, Prod.mk.injEq] at h; obtain ⟨rfl, rfl⟩ := h
        rw [if_pos hk]; exact hK
      · rename_i hk
        simp only [Option.some.injEq, Prod.mk.injEq] at h; obtain ⟨rfl, rfl⟩ := h
        rw [if_neg hk]; exact hK
    · rename_i hne
      refine ih _ _ _ h _ ?_
      cases e with
      | normal => exact hK
      | exit k => exact absurd h (hne k s')
      | ret => exact hK
  | loop b ih =>
    intro s e s' h K hK
    simp only [xRun] at h
    simp only [wp]
    refine ⟨fun m s => xLoop (fun s => xRun P call mu n b s) m s = some (e, s'), n, h, ?_⟩
    intro m t hm
    cases m with
    | zero => simp [xLoop] at hm
    | succ m =>
      simp only [xLoop] at hm
      split at hm
      · rename_i t1 h1
        exact ih _ _ _ h1 _ ⟨m, by omega, hm⟩
      · rename_i hne
        refine ih _ _ _ hm _ ?_
        cases e with
        | normal => exact absurd hm (hne s')
        | exit k => exact hK
        | ret => exact hK
  | _ => intro s e s' h; simp [xRun] at h
theorem xAll_sound (hm : P.follows .mixedOrders = true) (horc : ∀ g ts r, orc g ts = some r → DCall P g ts r) (hfs : ∀ f ∈ fs, f.Ok P) : ∀ n : Nat,
    (∀ g ts r, xPure P orc fs n g ts = some r → DCall P g ts r) ∧
    (∀ g args h v h', xShared P orc fs n g args h = some (v, h') → ICall P g args h (fun v' h'' => v' = v ∧ h'' = h')) ∧
    CallOk P (xCall P orc fs n) := by
  intro n
  induction n with
  | zero => exact ⟨fun g ts r h => by simp [xPure] at h, fun g args h v h' hh => by simp [xShared] at hh, fun mu dr o s g args s' h => by simp [xCall] at h⟩
  | succ n ih =>
    obtain ⟨ih1, ih2, ih3⟩ := ih
    refine ⟨fun g ts r h => ?_, fun g args h v h' hh => ?_, fun mu dr o s g args s' h K hK => ?_⟩
    · simp only [xPure] at h
      split at h
      · rename_i r' hr; cases h; exact horc _ _ _ hr
      · split at h
        · rename_i f hf
          obtain ⟨hmem, rfl⟩ := findFn_some hf
          obtain ⟨k1, k2, k3, k4⟩ := hfs f hmem
          split at h
          · rename_i hlen
            refine dcall_of_wp hm k1 k2 k3 f.mu k4 hlen ?_
            split at h
            · cases h
            · rename_i e s hne hr
              refine xRun_sound ih3 _ _ _ _ hr _ ?_
              cases e with
              | normal => exact h
              | ret => exact h
              | exit k => exact (hne k rfl).elim
            · cases h
          · cases h
        · cases h
    · simp only [xShared] at hh
      split at hh
      · rename_i f hf
        obtain ⟨hmem, rfl⟩ := findFn_some hf
        obtain ⟨k1, k2, k3, k4⟩ := hfs f hmem
        split at hh
        · rename_i hlen
          refine icall_of_wp hm k1 k2 k3 f.mu k4 hlen.2 ?_
          split at hh
          · cases hh
          · rename_i e s hne hr
            refine xRun_sound ih3 _ _ _ _ hr _ ?_
            have fin : ∃ r, resI P s f.fn.results.toList = some r ∧ (r = v ∧ s.hp = h') := by
              split at hh
              · rename_i r hr2
                simp only [Option.some.injEq, Prod.mk.injEq] at hh
                exact ⟨r, hr2, hh⟩
              · cases hh
            cases e with
            | normal => exact fin
            | ret => exact fin
            | exit k => exact (hne k rfl).elim
          · cases hh
        · cases hh
      · cases hh
    · simp only [xCall] at h
      split at h
      · rename_i v h1 hs
        have hi := ih2 _ _ _ _ _ hs
        split at h
        · cases h
        · rename_i hb
          cases h
          unfold callW
          cases dr with
          | true =>
            rw [if_pos rfl]
            have hb2 : (fatB mu o.dst && !mu 4999999) = true := by
              cases hf : (fatB mu o.dst && !mu 4999999) with
              | true => rfl
              | false => rw [hf] at hb; exact absurd rfl hb
            rw [Bool.and_eq_true, Bool.not_eq_true'] at hb2
            exact .inr (.inl ⟨hb2.1, v, h1, ⟨.inl hi, fun h => by rw [hb2.2] at h; cases h⟩, hK⟩)
          | false =>
            rw [if_neg (by simp)]
            refine .inr ⟨hi.1, fun w A μ vs hr hl hv => ?_⟩
            exact (hi.2 w A μ vs hr hl hv).mono (by
              rintro e w' ⟨v1, r, h2, μ', e1, ⟨rfl, rfl⟩, e3⟩
              exact ⟨v1, _, _, μ', e1, hK, e3⟩)
      · split at h
        · rename_i ts hts
          split at h
          · rename_i r hr
            have hd := ih1 _ _ _ hr
            unfold callW
            cases dr with
            | true =>
              rw [if_pos rfl]
              rw [if_pos rfl] at h
              split at h
              · rename_i ts' ht
                cases h
                have : ts' = ts := by
                  have e := trees_get ht
                  rw [e, mapO_t] at hts
                  exact Option.some.inj hts
                subst this
                exact .inl ⟨ts', r, ht, hd, hK⟩
              · split at h
                · rename_i hf
                  cases h
                  rw [Bool.and_eq_true, Bool.not_eq_true'] at hf
                  exact .inr (.inl ⟨hf.1, _, _, ⟨.inr ⟨ts, r, hts, hd, rfl, rfl⟩, fun h => by rw [hf.2] at h; cases h⟩, hK⟩)
                · cases h
            | false =>
              rw [if_neg (by simp)]
              rw [if_neg (by simp)] at h
              refine .inl ⟨ts, r, hts, hd, ?_⟩
              split at h
              · rename_i hsc
                cases h
                rw [if_pos hsc]; exact hK
              · rename_i hsc
                cases h
                rw [if_neg hsc]; exact hK
          · cases h
        · cases h
end
end Go.Vm
end
section
set_option maxRecDepth 10000
namespace Go.Vm
open Go Go.Proofs
namespace YtihgdplbehempaaGreat
open Go.Proofs.Tryz
noncomputable def alive25_d_c30 : Fn := ⟨65, Tryz.f65, (Tryz.f65.body).getD .skip, noMu, false⟩
theorem alive25_d_k30 : alive25_d_c30.Ok Tryz.prog := ⟨Tryz.func65, by kernel_rfl, by kernel_rfl, by kernel_rfl⟩
noncomputable def alive25_d_c31 : Fn := ⟨19, Tryz.f19, (Tryz.f19.body).getD .skip, (fun d => d == 6), false⟩
theorem alive25_d_k31 : alive25_d_c31.Ok Tryz.prog := ⟨Tryz.func19, by kernel_rfl, by kernel_rfl, by kernel_rfl⟩
noncomputable def alive25_d_c32 : Fn := ⟨20, Tryz.f20, (Tryz.f20.body).getD .skip, (fun d => d == 10 || d == 2000090), false⟩
theorem alive25_d_k32 : alive25_d_c32.Ok Tryz.prog := ⟨Tryz.func20, by kernel_rfl, by kernel_rfl, by kernel_rfl⟩
noncomputable def alive25_d_c33 : Fn := ⟨72, Tryz.f72, (Tryz.f72.body).getD .skip, noMu, false⟩
theorem alive25_d_k33 : alive25_d_c33.Ok Tryz.prog := ⟨Tryz.func72, by kernel_rfl, by kernel_rfl, by kernel_rfl⟩
noncomputable def alive25_d_c34 : Fn := ⟨24, Tryz.f24, (Tryz.f24.body).getD .skip, noMu, false⟩
theorem alive25_d_k34 : alive25_d_c34.Ok Tryz.prog := ⟨Tryz.func24, by kernel_rfl, by kernel_rfl, by kernel_rfl⟩
noncomputable def alive25_d_c35 : Fn := ⟨25, Tryz.f25, (Tryz.f25.body).getD .skip, (fun d => d == 8 || d == 10), false⟩
theorem alive25_d_k35 : alive25_d_c35.Ok Tryz.prog := ⟨Tryz.func25, by kernel_rfl, by kernel_rfl, by kernel_rfl⟩
noncomputable def alive25_d_c36 : Fn := ⟨73, Tryz.f73, (Tryz.f73.body).getD .skip, (fun d => d == 12 || d == 13 || d == 33 || d == 38), false⟩
theorem alive25_d_k36 : alive25_d_c36.Ok Tryz.prog := ⟨Tryz.func73, by kernel_rfl, by kernel_rfl, by kernel_rfl⟩
noncomputable def alive25_d_c38 : Fn := ⟨82, Tryz.f82, (Tryz.f82.body).getD .skip, (fun d => d == 10 || d == 13 || d == 14), false⟩
theorem alive25_d_k38 : alive25_d_c38.Ok Tryz.prog := ⟨Tryz.func82, by kernel_rfl, by kernel_rfl, by kernel_rfl⟩
noncomputable def alive25_d_c40 : Fn := ⟨131, Tryz.f131, (Tryz.f131.body).getD .skip, noMu, false⟩
theorem alive25_d_k40 : alive25_d_c40.Ok Tryz.prog := ⟨Tryz.func131, by kernel_rfl, by kernel_rfl, by kernel_rfl⟩
noncomputable def alive25_d_c49 : Fn := ⟨135, Tryz.f135, (Tryz.f135.body).getD .skip, noMu, false⟩
theorem alive25_d_k49 : alive25_d_c49.Ok Tryz.prog := ⟨Tryz.func135, by kernel_rfl, by kernel_rfl, by kernel_rfl⟩
noncomputable def alive25_d_c51 : Fn := ⟨71, Tryz.f71, (Tryz.f71.body).getD .skip, noMu, false⟩
theorem alive25_d_k51 : alive25_d_c51.Ok Tryz.prog := ⟨Tryz.func71, by kernel_rfl, by kernel_rfl, by kernel_rfl⟩
noncomputable def alive25_d_c57 : Fn := ⟨133, Tryz.f133, (Tryz.f133.body).getD .skip, noMu, false⟩
theorem alive25_d_k57 : alive25_d_c57.Ok Tryz.prog := ⟨Tryz.func133, by kernel_rfl, by kernel_rfl, by kernel_rfl⟩
noncomputable def alive25_d_c58 : Fn := ⟨134, Tryz.f134, (Tryz.f134.body).getD .skip, noMu, false⟩
theorem alive25_d_k58 : alive25_d_c58.Ok Tryz.prog := ⟨Tryz.func134, by kernel_rfl, by kernel_rfl, by kernel_rfl⟩
noncomputable def alive25_d_c59 : Fn := ⟨18, Tryz.f18, (Tryz.f18.body).getD .skip, noMu, false⟩
theorem alive25_d_k59 : alive25_d_c59.Ok Tryz.prog := ⟨Tryz.func18, by kernel_rfl, by kernel_rfl, by kernel_rfl⟩
noncomputable def alive25_d_c60 : Fn := ⟨26, Tryz.f26, (Tryz.f26.body).getD .skip, (fun d => d == 6 || d == 33 || d == 39 || d == 47), false⟩
theorem alive25_d_k60 : alive25_d_c60.Ok Tryz.prog := ⟨Tryz.func26, by kernel_rfl, by kernel_rfl, by kernel_rfl⟩
noncomputable def alive25_d_c61 : Fn := ⟨30, Tryz.f30, (Tryz.f30.body).getD .skip, (fun d => d == 12), false⟩
theorem alive25_d_k61 : alive25_d_c61.Ok Tryz.prog := ⟨Tryz.func30, by kernel_rfl, by kernel_rfl, by kernel_rfl⟩
noncomputable def alive25_d_c62 : Fn := ⟨150, Tryz.f150, (Tryz.f150.body).getD .skip, noMu, false⟩
theorem alive25_d_k62 : alive25_d_c62.Ok Tryz.prog := ⟨Tryz.func150, by kernel_rfl, by kernel_rfl, by kernel_rfl⟩
noncomputable def alive25_d_c63 : Fn := ⟨151, Tryz.f151, (Tryz.f151.body).getD .skip, noMu, false⟩
theorem alive25_d_k63 : alive25_d_c63.Ok Tryz.prog := ⟨Tryz.func151, by kernel_rfl, by kernel_rfl, by kernel_rfl⟩
noncomputable def alive25_d_c64 : Fn := ⟨152, Tryz.f152, (Tryz.f152.body).getD .skip, (fun d => d == 7 || d == 9 || d == 11 || d == 12 || d == 16 || d == 43 || d == 45 || d == 47 || d == 54 || d == 58), false⟩
theorem alive25_d_k64 : alive25_d_c64.Ok Tryz.prog := ⟨Tryz.func152, by kernel_rfl, by kernel_rfl, by kernel_rfl⟩
noncomputable def alive25_d_c65 : Fn := ⟨76, Tryz.f76, (Tryz.f76.body).getD .skip, (fun d => d == 7 || d == 9 || d == 11 || d == 16), false⟩
theorem alive25_d_k65 : alive25_d_c65.Ok Tryz.prog := ⟨Tryz.func76, by kernel_rfl, by kernel_rfl, by kernel_rfl⟩
noncomputable def alive25_d_c66 : Fn := ⟨77, Tryz.f77, (Tryz.f77.body).getD .skip, noMu, false⟩
theorem alive25_d_k66 : alive25_d_c66.Ok Tryz.prog := ⟨Tryz.func77, by kernel_rfl, by kernel_rfl, by kernel_rfl⟩
noncomputable def alive25_d_c67 : Fn := ⟨31, Tryz.f31, (Tryz.f31.body).getD .skip, noMu, false⟩
theorem alive25_d_k67 : alive25_d_c67.Ok Tryz.prog := ⟨Tryz.func31, by kernel_rfl, by kernel_rfl, by kernel_rfl⟩
noncomputable def alive25_d_c68 : Fn := ⟨78, Tryz.f78, (Tryz.f78.body).getD .skip, (fun d => d == 9 || d == 13), false⟩
theorem alive25_d_k68 : alive25_d_c68.Ok Tryz.prog := ⟨Tryz.func78, by kernel_rfl, by kernel_rfl, by kernel_rfl⟩
noncomputable def alive25_d_c69 : Fn := ⟨153, Tryz.f153, (Tryz.f153.body).getD .skip, (fun d => d == 5 || d == 7), true⟩
theorem alive25_d_k69 : alive25_d_c69.Ok Tryz.prog := ⟨Tryz.func153, by kernel_rfl, by kernel_rfl, by kernel_rfl⟩
noncomputable def alive25_d_c70 : Fn := ⟨154, Tryz.f154, (Tryz.f154.body).getD .skip, (fun d => d == 2), false⟩
theorem alive25_d_k70 : alive25_d_c70.Ok Tryz.prog := ⟨Tryz.func154, by kernel_rfl, by kernel_rfl, by kernel_rfl⟩
noncomputable def alive25_d_c71 : Fn := ⟨155, Tryz.f155, (Tryz.f155.body).getD .skip, noMu, false⟩
theorem alive25_d_k71 : alive25_d_c71.Ok Tryz.prog := ⟨Tryz.func155, by kernel_rfl, by kernel_rfl, by kernel_rfl⟩
noncomputable def alive25_d_c72 : Fn := ⟨156, Tryz.f156, (Tryz.f156.body).getD .skip, (fun d => d == 4 || d == 18), false⟩
theorem alive25_d_k72 : alive25_d_c72.Ok Tryz.prog := ⟨Tryz.func156, by kernel_rfl, by kernel_rfl, by kernel_rfl⟩
noncomputable def alive25_d_c73 : Fn := ⟨157, Tryz.f157, (Tryz.f157.body).getD .skip, (fun d => d == 2 || d == 3), false⟩
theorem alive25_d_k73 : alive25_d_c73.Ok Tryz.prog := ⟨Tryz.func157, by kernel_rfl, by kernel_rfl, by kernel_rfl⟩
noncomputable def alive25_d_c74 : Fn := ⟨29, Tryz.f29, (Tryz.f29.body).getD .skip, (fun d => d == 5 || d == 7 || d == 10), false⟩
theorem alive25_d_k74 : alive25_d_c74.Ok Tryz.prog := ⟨Tryz.func29, by kernel_rfl, by kernel_rfl, by kernel_rfl⟩
noncomputable def alive25_d_c75 : Fn := ⟨84, Tryz.f84, (Tryz.f84.body).getD .skip, noMu, false⟩
theorem alive25_d_k75 : alive25_d_c75.Ok Tryz.prog := ⟨Tryz.func84, by kernel_rfl, by kernel_rfl, by kernel_rfl⟩
noncomputable def alive25_d_c76 : Fn := ⟨85, Tryz.f85, (Tryz.f85.body).getD .skip, (fun d => d == 3 || d == 6 || d == 9 || d == 17), false⟩
theorem alive25_d_k76 : alive25_d_c76.Ok Tryz.prog := ⟨Tryz.func85, by kernel_rfl, by kernel_rfl, by kernel_rfl⟩
noncomputable def alive25_d_c77 : Fn := ⟨162, Tryz.f162, (Tryz.f162.body).getD .skip, noMu, false⟩
theorem alive25_d_k77 : alive25_d_c77.Ok Tryz.prog := ⟨Tryz.func162, by kernel_rfl, by kernel_rfl, by kernel_rfl⟩
noncomputable def alive25_d_c79 : Fn := ⟨205, Tryz.f205, (Tryz.f205.body).getD .skip, noMu, false⟩
theorem alive25_d_k79 : alive25_d_c79.Ok Tryz.prog := ⟨Tryz.func205, by kernel_rfl, by kernel_rfl, by kernel_rfl⟩
noncomputable def alive25_d_c83 : Fn := ⟨207, Tryz.f207, (Tryz.f207.body).getD .skip, noMu, false⟩
theorem alive25_d_k83 : alive25_d_c83.Ok Tryz.prog := ⟨Tryz.func207, by kernel_rfl, by kernel_rfl, by kernel_rfl⟩
noncomputable def alive25_d_c84 : Fn := ⟨149, Tryz.f149, (Tryz.f149.body).getD .skip, noMu, false⟩
theorem alive25_d_k84 : alive25_d_c84.Ok Tryz.prog := ⟨Tryz.func149, by kernel_rfl, by kernel_rfl, by kernel_rfl⟩
noncomputable def alive25_d_c86 : Fn := ⟨206, Tryz.f206, (Tryz.f206.body).getD .skip, noMu, false⟩
theorem alive25_d_k86 : alive25_d_c86.Ok Tryz.prog := ⟨Tryz.func206, by kernel_rfl, by kernel_rfl, by kernel_rfl⟩
noncomputable def alive25_d_c87 : Fn := ⟨66, Tryz.f66, (Tryz.f66.body).getD .skip, (fun d => d == 17 || d == 20 || d == 24 || d == 30 || d == 32 || d == 52 || d == 58 || d == 61 || d == 79 || d == 91 || d == 96 || d == 102 || d == 104 || d == 105 || d == 106 || d == 107 || d == 108 || d == 109 || d == 110 || d == 114 || d == 118 || d == 123 || d == 125 || d == 127 || d == 130), false⟩
theorem alive25_d_k87 : alive25_d_c87.Ok Tryz.prog := ⟨Tryz.func66, by kernel_rfl, by kernel_rfl, by kernel_rfl⟩
noncomputable def alive25_d_c88 : Fn := ⟨67, Tryz.f67, (Tryz.f67.body).getD .skip, (fun d => d == 16 || d == 10 || d == 38 || d == 40 || d == 42 || d == 47 || d == 48 || d == 56 || d == 58 || d == 60 || d == 67 || d == 68), false⟩
theorem alive25_d_k88 : alive25_d_c88.Ok Tryz.prog := ⟨Tryz.func67, by kernel_rfl, by kernel_rfl, by kernel_rfl⟩
noncomputable def alive25_d_c89 : Fn := ⟨68, Tryz.f68, (Tryz.f68.body).getD .skip, (fun d => d == 9), false⟩
theorem alive25_d_k89 : alive25_d_c89.Ok Tryz.prog := ⟨Tryz.func68, by kernel_rfl, by kernel_rfl, by kernel_rfl⟩
noncomputable def alive25_d_c90 : Fn := ⟨69, Tryz.f69, (Tryz.f69.body).getD .skip, (fun d => d == 5 || d == 8 || d == 33), false⟩
theorem alive25_d_k90 : alive25_d_c90.Ok Tryz.prog := ⟨Tryz.func69, by kernel_rfl, by kernel_rfl, by kernel_rfl⟩
noncomputable def alive25_d_c91 : Fn := ⟨70, Tryz.f70, (Tryz.f70.body).getD .skip, (fun d => d == 8 || d == 15), false⟩
theorem alive25_d_k91 : alive25_d_c91.Ok Tryz.prog := ⟨Tryz.func70, by kernel_rfl, by kernel_rfl, by kernel_rfl⟩
noncomputable def alive25_d_c92 : Fn := ⟨79, Tryz.f79, (Tryz.f79.body).getD .skip, (fun d => d == 2 || d == 10 || d == 13), false⟩
theorem alive25_d_k92 : alive25_d_c92.Ok Tryz.prog := ⟨Tryz.func79, by kernel_rfl, by kernel_rfl, by kernel_rfl⟩
noncomputable def alive25_d_c93 : Fn := ⟨80, Tryz.f80, (Tryz.f80.body).getD .skip, noMu, false⟩
theorem alive25_d_k93 : alive25_d_c93.Ok Tryz.prog := ⟨Tryz.func80, by kernel_rfl, by kernel_rfl, by kernel_rfl⟩
noncomputable def alive25_d_c95 : Fn := ⟨218, Tryz.f218, (Tryz.f218.body).getD .skip, noMu, false⟩
theorem alive25_d_k95 : alive25_d_c95.Ok Tryz.prog := ⟨Tryz.func218, by kernel_rfl, by kernel_rfl, by kernel_rfl⟩
noncomputable def alive25_d_c96 : Fn := ⟨219, Tryz.f219, (Tryz.f219.body).getD .skip, noMu, false⟩
theorem alive25_d_k96 : alive25_d_c96.Ok Tryz.prog := ⟨Tryz.func219, by kernel_rfl, by kernel_rfl, by kernel_rfl⟩
noncomputable def alive25_d_c97 : Fn := ⟨161, Tryz.f161, (Tryz.f161.body).getD .skip, noMu, false⟩
theorem alive25_d_k97 : alive25_d_c97.Ok Tryz.prog := ⟨Tryz.func161, by kernel_rfl, by kernel_rfl, by kernel_rfl⟩
noncomputable def alive25_d_c98 : Fn := ⟨220, Tryz.f220, (Tryz.f220.body).getD .skip, noMu, false⟩
theorem alive25_d_k98 : alive25_d_c98.Ok Tryz.prog := ⟨Tryz.func220, by kernel_rfl, by kernel_rfl, by kernel_rfl⟩
noncomputable def alive25_d_c99 : Fn := ⟨221, Tryz.f221, (Tryz.f221.body).getD .skip, noMu, false⟩
theorem alive25_d_k99 : alive25_d_c99.Ok Tryz.prog := ⟨Tryz.func221, by kernel_rfl, by kernel_rfl, by kernel_rfl⟩
noncomputable def alive25_d_c100 : Fn := ⟨222, Tryz.f222, (Tryz.f222.body).getD .skip, (fun d => d == 4), false⟩
theorem alive25_d_k100 : alive25_d_c100.Ok Tryz.prog := ⟨Tryz.func222, by kernel_rfl, by kernel_rfl, by kernel_rfl⟩
noncomputable def alive25_d_c101 : Fn := ⟨158, Tryz.f158, (Tryz.f158.body).getD .skip, noMu, false⟩
theorem alive25_d_k101 : alive25_d_c101.Ok Tryz.prog := ⟨Tryz.func158, by kernel_rfl, by kernel_rfl, by kernel_rfl⟩
noncomputable def alive25_d_c102 : Fn := ⟨83, Tryz.f83, (Tryz.f83.body).getD .skip, noMu, false⟩
theorem alive25_d_k102 : alive25_d_c102.Ok Tryz.prog := ⟨Tryz.func83, by kernel_rfl, by kernel_rfl, by kernel_rfl⟩
noncomputable def alive25_d_c103 : Fn := ⟨159, Tryz.f159, (Tryz.f159.body).getD .skip, (fun d => d == 5 || d == 7), true⟩
theorem alive25_d_k103 : alive25_d_c103.Ok Tryz.prog := ⟨Tryz.func159, by kernel_rfl, by kernel_rfl, by kernel_rfl⟩
noncomputable def alive25_d_c104 : Fn := ⟨223, Tryz.f223, (Tryz.f223.body).getD .skip, (fun d => d == 4), false⟩
theorem alive25_d_k104 : alive25_d_c104.Ok Tryz.prog := ⟨Tryz.func223, by kernel_rfl, by kernel_rfl, by kernel_rfl⟩
noncomputable def alive25_d_c105 : Fn := ⟨224, Tryz.f224, (Tryz.f224.body).getD .skip, (fun d => d == 4), false⟩
theorem alive25_d_k105 : alive25_d_c105.Ok Tryz.prog := ⟨Tryz.func224, by kernel_rfl, by kernel_rfl, by kernel_rfl⟩
noncomputable def alive25_d_c106 : Fn := ⟨163, Tryz.f163, (Tryz.f163.body).getD .skip, noMu, false⟩
theorem alive25_d_k106 : alive25_d_c106.Ok Tryz.prog := ⟨Tryz.func163, by kernel_rfl, by kernel_rfl, by kernel_rfl⟩
noncomputable def alive25_d_c107 : Fn := ⟨88, Tryz.f88, (Tryz.f88.body).getD .skip, (fun d => d == 37), false⟩
theorem alive25_d_k107 : alive25_d_c107.Ok Tryz.prog := ⟨Tryz.func88, by kernel_rfl, by kernel_rfl, by kernel_rfl⟩
noncomputable def alive25_d_c108 : Fn := ⟨87, Tryz.f87, (Tryz.f87.body).getD .skip, noMu, false⟩
theorem alive25_d_k108 : alive25_d_c108.Ok Tryz.prog := ⟨Tryz.func87, by kernel_rfl, by kernel_rfl, by kernel_rfl⟩
noncomputable def alive25_d_c109 : Fn := ⟨75, Tryz.f75, (Tryz.f75.body).getD .skip, noMu, false⟩
theorem alive25_d_k109 : alive25_d_c109.Ok Tryz.prog := ⟨Tryz.func75, by kernel_rfl, by kernel_rfl, by kernel_rfl⟩
noncomputable def alive25_d_c114 : Fn := ⟨136, Tryz.f136, (Tryz.f136.body).getD .skip, (fun d => d == 16 || d == 18 || d == 31 || d == 41 || d == 52 || d == 53 || d == 54 || d == 55 || d == 58 || d == 81 || d == 13 || d == 141 || d == 142 || d == 143 || d == 144 || d == 146 || d == 147 || d == 148 || d == 149 || d == 151 || d == 155 || d == 163 || d == 164 || d == 167 || d == 168 || d == 169 || d == 170 || d == 172 || d == 173 || d == 174 || d == 178), true⟩
theorem alive25_d_k114 : alive25_d_c114.Ok Tryz.prog := ⟨Tryz.func136, by kernel_rfl, by kernel_rfl, by kernel_rfl⟩
noncomputable def alive25_d_c115 : Fn := ⟨137, Tryz.f137, (Tryz.f137.body).getD .skip, noMu, true⟩
theorem alive25_d_k115 : alive25_d_c115.Ok Tryz.prog := ⟨Tryz.func137, by kernel_rfl, by kernel_rfl, by kernel_rfl⟩
noncomputable def alive25_d_c116 : Fn := ⟨138, Tryz.f138, (Tryz.f138.body).getD .skip, (fun d => d == 7 || d == 34 || d == 36 || d == 38 || d == 42 || d == 60 || d == 68), true⟩
theorem alive25_d_k116 : alive25_d_c116.Ok Tryz.prog := ⟨Tryz.func138, by kernel_rfl, by kernel_rfl, by kernel_rfl⟩
noncomputable def alive25_d_c117 : Fn := ⟨139, Tryz.f139, (Tryz.f139.body).getD .skip, (fun d => d == 6 || d == 9 || d == 27 || d == 28 || d == 31 || d == 33 || d == 35 || d == 50 || d == 51 || d == 52 || d == 53 || d == 55 || d == 57 || d == 58 || d == 59 || d == 60 || d == 62 || d == 1000006 || d == 1000009), true⟩
theorem alive25_d_k117 : alive25_d_c117.Ok Tryz.prog := ⟨Tryz.func139, by kernel_rfl, by kernel_rfl, by kernel_rfl⟩
noncomputable def alive25_d_c118 : Fn := ⟨140, Tryz.f140, (Tryz.f140.body).getD .skip, (fun d => d == 2), false⟩
theorem alive25_d_k118 : alive25_d_c118.Ok Tryz.prog := ⟨Tryz.func140, by kernel_rfl, by kernel_rfl, by kernel_rfl⟩
noncomputable def alive25_d_c119 : Fn := ⟨141, Tryz.f141, (Tryz.f141.body).getD .skip, (fun d => d == 4), false⟩
theorem alive25_d_k119 : alive25_d_c119.Ok Tryz.prog := ⟨Tryz.func141, by kernel_rfl, by kernel_rfl, by kernel_rfl⟩
noncomputable def alive25_d_c120 : Fn := ⟨142, Tryz.f142, (Tryz.f142.body).getD .skip, (fun d => d == 2), false⟩
theorem alive25_d_k120 : alive25_d_c120.Ok Tryz.prog := ⟨Tryz.func142, by kernel_rfl, by kernel_rfl, by kernel_rfl⟩
noncomputable def alive25_d_c121 : Fn := ⟨143, Tryz.f143, (Tryz.f143.body).getD .skip, (fun d => d == 3 || d == 6 || d == 7 || d == 10 || d == 11 || d == 12 || d == 23 || d == 46 || d == 40), false⟩
theorem alive25_d_k121 : alive25_d_c121.Ok Tryz.prog := ⟨Tryz.func143, by kernel_rfl, by kernel_rfl, by kernel_rfl⟩
noncomputable def alive25_d_c122 : Fn := ⟨144, Tryz.f144, (Tryz.f144.body).getD .skip, noMu, false⟩
theorem alive25_d_k122 : alive25_d_c122.Ok Tryz.prog := ⟨Tryz.func144, by kernel_rfl, by kernel_rfl, by kernel_rfl⟩
noncomputable def alive25_d_c123 : Fn := ⟨145, Tryz.f145, (Tryz.f145.body).getD .skip, (fun d => d == 4), false⟩
theorem alive25_d_k123 : alive25_d_c123.Ok Tryz.prog := ⟨Tryz.func145, by kernel_rfl, by kernel_rfl, by kernel_rfl⟩
noncomputable def alive25_d_c124 : Fn := ⟨146, Tryz.f146, (Tryz.f146.body).getD .skip, (fun d => d == 2), false⟩
theorem alive25_d_k124 : alive25_d_c124.Ok Tryz.prog := ⟨Tryz.func146, by kernel_rfl, by kernel_rfl, by kernel_rfl⟩
noncomputable def alive25_d_c125 : Fn := ⟨147, Tryz.f147, (Tryz.f147.body).getD .skip, (fun d => d == 2), false⟩
theorem alive25_d_k125 : alive25_d_c125.Ok Tryz.prog := ⟨Tryz.func147, by kernel_rfl, by kernel_rfl, by kernel_rfl⟩
noncomputable def alive25_d_c126 : Fn := ⟨148, Tryz.f148, (Tryz.f148.body).getD .skip, (fun d => d == 2), false⟩
theorem alive25_d_k126 : alive25_d_c126.Ok Tryz.prog := ⟨Tryz.func148, by kernel_rfl, by kernel_rfl, by kernel_rfl⟩
noncomputable def alive25_d_c127 : Fn := ⟨160, Tryz.f160, (Tryz.f160.body).getD .skip, (fun d => d == 5 || d == 7), true⟩
theorem alive25_d_k127 : alive25_d_c127.Ok Tryz.prog := ⟨Tryz.func160, by kernel_rfl, by kernel_rfl, by kernel_rfl⟩
noncomputable def alive25_d_c128 : Fn := ⟨257, Tryz.f257, (Tryz.f257.body).getD .skip, noMu, false⟩
theorem alive25_d_k128 : alive25_d_c128.Ok Tryz.prog := ⟨Tryz.func257, by kernel_rfl, by kernel_rfl, by kernel_rfl⟩
noncomputable def alive25_d_c129 : Fn := ⟨258, Tryz.f258, (Tryz.f258.body).getD .skip, noMu, false⟩
theorem alive25_d_k129 : alive25_d_c129.Ok Tryz.prog := ⟨Tryz.func258, by kernel_rfl, by kernel_rfl, by kernel_rfl⟩
noncomputable def alive25_d_c130 : Fn := ⟨259, Tryz.f259, (Tryz.f259.body).getD .skip, (fun d => d == 19), false⟩
theorem alive25_d_k130 : alive25_d_c130.Ok Tryz.prog := ⟨Tryz.func259, by kernel_rfl, by kernel_rfl, by kernel_rfl⟩
noncomputable def alive25_d_c131 : Fn := ⟨252, Tryz.f252, (Tryz.f252.body).getD .skip, noMu, false⟩
theorem alive25_d_k131 : alive25_d_c131.Ok Tryz.prog := ⟨Tryz.func252, by kernel_rfl, by kernel_rfl, by kernel_rfl⟩
noncomputable def alive25_d_c132 : Fn := ⟨253, Tryz.f253, (Tryz.f253.body).getD .skip, (fun d => d == 11), false⟩
theorem alive25_d_k132 : alive25_d_c132.Ok Tryz.prog := ⟨Tryz.func253, by kernel_rfl, by kernel_rfl, by kernel_rfl⟩
noncomputable def alive25_d_c133 : Fn := ⟨212, Tryz.f212, (Tryz.f212.body).getD .skip, (fun d => d == 2), false⟩
theorem alive25_d_k133 : alive25_d_c133.Ok Tryz.prog := ⟨Tryz.func212, by kernel_rfl, by kernel_rfl, by kernel_rfl⟩
noncomputable def alive25_d_c134 : Fn := ⟨165, Tryz.f165, (Tryz.f165.body).getD .skip, noMu, false⟩
theorem alive25_d_k134 : alive25_d_c134.Ok Tryz.prog := ⟨Tryz.func165, by kernel_rfl, by kernel_rfl, by kernel_rfl⟩
noncomputable def alive25_d_c135 : Fn := ⟨164, Tryz.f164, (Tryz.f164.body).getD .skip, (fun d => d == 11 || d == 33), false⟩
theorem alive25_d_k135 : alive25_d_c135.Ok Tryz.prog := ⟨Tryz.func164, by kernel_rfl, by kernel_rfl, by kernel_rfl⟩
noncomputable def alive25_d_c136 : Fn := ⟨208, Tryz.f208, (Tryz.f208.body).getD .skip, (fun d => d == 6 || d == 8 || d == 26 || d == 28 || d == 30 || d == 36), true⟩
theorem alive25_d_k136 : alive25_d_c136.Ok Tryz.prog := ⟨Tryz.func208, by kernel_rfl, by kernel_rfl, by kernel_rfl⟩
noncomputable def alive25_d_c137 : Fn := ⟨209, Tryz.f209, (Tryz.f209.body).getD .skip, noMu, false⟩
theorem alive25_d_k137 : alive25_d_c137.Ok Tryz.prog := ⟨Tryz.func209, by kernel_rfl, by kernel_rfl, by kernel_rfl⟩
noncomputable def alive25_d_c138 : Fn := ⟨210, Tryz.f210, (Tryz.f210.body).getD .skip, (fun d => d == 2 || d == 3 || d == 4 || d == 5), false⟩
theorem alive25_d_k138 : alive25_d_c138.Ok Tryz.prog := ⟨Tryz.func210, by kernel_rfl, by kernel_rfl, by kernel_rfl⟩
noncomputable def alive25_d_c139 : Fn := ⟨211, Tryz.f211, (Tryz.f211.body).getD .skip, (fun d => d == 4), false⟩
theorem alive25_d_k139 : alive25_d_c139.Ok Tryz.prog := ⟨Tryz.func211, by kernel_rfl, by kernel_rfl, by kernel_rfl⟩
noncomputable def alive25_d_c140 : Fn := ⟨213, Tryz.f213, (Tryz.f213.body).getD .skip, (fun d => d == 2 || d == 3 || d == 5 || d == 6 || d == 7), false⟩
theorem alive25_d_k140 : alive25_d_c140.Ok Tryz.prog := ⟨Tryz.func213, by kernel_rfl, by kernel_rfl, by kernel_rfl⟩
noncomputable def alive25_d_c141 : Fn := ⟨214, Tryz.f214, (Tryz.f214.body).getD .skip, (fun d => d == 4 || d == 5 || d == 8 || d == 9 || d == 35 || d == 43 || d == 51 || d == 78 || d == 81 || d == 87 || d == 94), false⟩
theorem alive25_d_k141 : alive25_d_c141.Ok Tryz.prog := ⟨Tryz.func214, by kernel_rfl, by kernel_rfl, by kernel_rfl⟩
noncomputable def alive25_d_c142 : Fn := ⟨215, Tryz.f215, (Tryz.f215.body).getD .skip, noMu, false⟩
theorem alive25_d_k142 : alive25_d_c142.Ok Tryz.prog := ⟨Tryz.func215, by kernel_rfl, by kernel_rfl, by kernel_rfl⟩
noncomputable def alive25_d_c143 : Fn := ⟨216, Tryz.f216, (Tryz.f216.body).getD .skip, noMu, false⟩
theorem alive25_d_k143 : alive25_d_c143.Ok Tryz.prog := ⟨Tryz.func216, by kernel_rfl, by kernel_rfl, by kernel_rfl⟩
noncomputable def alive25_d_c144 : Fn := ⟨217, Tryz.f217, (Tryz.f217.body).getD .skip, (fun d => d == 4), false⟩
theorem alive25_d_k144 : alive25_d_c144.Ok Tryz.prog := ⟨Tryz.func217, by kernel_rfl, by kernel_rfl, by kernel_rfl⟩
noncomputable def alive25_d_c145 : Fn := ⟨268, Tryz.f268, (Tryz.f268.body).getD .skip, noMu, false⟩
theorem alive25_d_k145 : alive25_d_c145.Ok Tryz.prog := ⟨Tryz.func268, by kernel_rfl, by kernel_rfl, by kernel_rfl⟩
noncomputable def alive25_d_c146 : Fn := ⟨267, Tryz.f267, (Tryz.f267.body).getD .skip, noMu, false⟩
theorem alive25_d_k146 : alive25_d_c146.Ok Tryz.prog := ⟨Tryz.func267, by kernel_rfl, by kernel_rfl, by kernel_rfl⟩
noncomputable def alive25_d_c147 : Fn := ⟨249, Tryz.f249, (Tryz.f249.body).getD .skip, (fun d => d == 2 || d == 3 || d == 4 || d == 5 || d == 6 || d == 1000002 || d == 1000006), false⟩
theorem alive25_d_k147 : alive25_d_c147.Ok Tryz.prog := ⟨Tryz.func249, by kernel_rfl, by kernel_rfl, by kernel_rfl⟩
noncomputable def alive25_d_c148 : Fn := ⟨250, Tryz.f250, (Tryz.f250.body).getD .skip, (fun d => d == 11), false⟩
theorem alive25_d_k148 : alive25_d_c148.Ok Tryz.prog := ⟨Tryz.func250, by kernel_rfl, by kernel_rfl, by kernel_rfl⟩
noncomputable def alive25_d_c149 : Fn := ⟨251, Tryz.f251, (Tryz.f251.body).getD .skip, noMu, false⟩
theorem alive25_d_k149 : alive25_d_c149.Ok Tryz.prog := ⟨Tryz.func251, by kernel_rfl, by kernel_rfl, by kernel_rfl⟩
noncomputable def alive25_d_c150 : Fn := ⟨254, Tryz.f254, (Tryz.f254.body).getD .skip, noMu, false⟩
theorem alive25_d_k150 : alive25_d_c150.Ok Tryz.prog := ⟨Tryz.func254, by kernel_rfl, by kernel_rfl, by kernel_rfl⟩
noncomputable def alive25_d_c151 : Fn := ⟨255, Tryz.f255, (Tryz.f255.body).getD .skip, noMu, false⟩
theorem alive25_d_k151 : alive25_d_c151.Ok Tryz.prog := ⟨Tryz.func255, by kernel_rfl, by kernel_rfl, by kernel_rfl⟩
noncomputable def alive25_d_c152 : Fn := ⟨256, Tryz.f256, (Tryz.f256.body).getD .skip, noMu, false⟩
theorem alive25_d_k152 : alive25_d_c152.Ok Tryz.prog := ⟨Tryz.func256, by kernel_rfl, by kernel_rfl, by kernel_rfl⟩
noncomputable def alive25_d_c153 : Fn := ⟨266, Tryz.f266, (Tryz.f266.body).getD .skip, (fun d => d == 2), false⟩
theorem alive25_d_k153 : alive25_d_c153.Ok Tryz.prog := ⟨Tryz.func266, by kernel_rfl, by kernel_rfl, by kernel_rfl⟩
noncomputable def alive25_d_fs : List Fn := [alive25_d_c30, alive25_d_c31, alive25_d_c32, alive25_d_c33, alive25_d_c34, alive25_d_c35, alive25_d_c36, alive25_d_c38, alive25_d_c40, alive25_d_c49, alive25_d_c51, alive25_d_c57, alive25_d_c58, alive25_d_c59, alive25_d_c60, alive25_d_c61, alive25_d_c62, alive25_d_c63, alive25_d_c64, alive25_d_c65, alive25_d_c66, alive25_d_c67, alive25_d_c68, alive25_d_c69, alive25_d_c70, alive25_d_c71, alive25_d_c72, alive25_d_c73, alive25_d_c74, alive25_d_c75, alive25_d_c76, alive25_d_c77, alive25_d_c79, alive25_d_c83, alive25_d_c84, alive25_d_c86, alive25_d_c87, alive25_d_c88, alive25_d_c89, alive25_d_c90, alive25_d_c91, alive25_d_c92, alive25_d_c93, alive25_d_c95, alive25_d_c96, alive25_d_c97, alive25_d_c98, alive25_d_c99, alive25_d_c100, alive25_d_c101, alive25_d_c102, alive25_d_c103, alive25_d_c104, alive25_d_c105, alive25_d_c106, alive25_d_c107, alive25_d_c108, alive25_d_c109, alive25_d_c114, alive25_d_c115, alive25_d_c116, alive25_d_c117, alive25_d_c118, alive25_d_c119, alive25_d_c120, alive25_d_c121, alive25_d_c122, alive25_d_c123, alive25_d_c124, alive25_d_c125, alive25_d_c126, alive25_d_c127, alive25_d_c128, alive25_d_c129, alive25_d_c130, alive25_d_c131, alive25_d_c132, alive25_d_c133, alive25_d_c134, alive25_d_c135, alive25_d_c136, alive25_d_c137, alive25_d_c138, alive25_d_c139, alive25_d_c140, alive25_d_c141, alive25_d_c142, alive25_d_c143, alive25_d_c144, alive25_d_c145, alive25_d_c146, alive25_d_c147, alive25_d_c148, alive25_d_c149, alive25_d_c150, alive25_d_c151, alive25_d_c152, alive25_d_c153]
theorem alive25_d_ok : ∀ f ∈ alive25_d_fs, f.Ok Tryz.prog := List.forall_mem_cons.2 ⟨alive25_d_k30, List.forall_mem_cons.2 ⟨alive25_d_k31, List.forall_mem_cons.2 ⟨alive25_d_k32, List.forall_mem_cons.2 ⟨alive25_d_k33, List.forall_mem_cons.2 ⟨alive25_d_k34, List.forall_mem_cons.2 ⟨alive25_d_k35, List.forall_mem_cons.2 ⟨alive25_d_k36, List.forall_mem_cons.2 ⟨alive25_d_k38, List.forall_mem_cons.2 ⟨alive25_d_k40, List.forall_mem_cons.2 ⟨alive25_d_k49, List.forall_mem_cons.2 ⟨alive25_d_k51, List.forall_mem_cons.2 ⟨alive25_d_k57, List.forall_mem_cons.2 ⟨alive25_d_k58, List.forall_mem_cons.2 ⟨alive25_d_k59, List.forall_mem_cons.2 ⟨alive25_d_k60, List.forall_mem_cons.2 ⟨alive25_d_k61, List.forall_mem_cons.2 ⟨alive25_d_k62, List.forall_mem_cons.2 ⟨alive25_d_k63, List.forall_mem_cons.2 ⟨alive25_d_k64, List.forall_mem_cons.2 ⟨alive25_d_k65, List.forall_mem_cons.2 ⟨alive25_d_k66, List.forall_mem_cons.2 ⟨alive25_d_k67, List.forall_mem_cons.2 ⟨alive25_d_k68, List.forall_mem_cons.2 ⟨alive25_d_k69, List.forall_mem_cons.2 ⟨alive25_d_k70, List.forall_mem_cons.2 ⟨alive25_d_k71, List.forall_mem_cons.2 ⟨alive25_d_k72, List.forall_mem_cons.2 ⟨alive25_d_k73, List.forall_mem_cons.2 ⟨alive25_d_k74, List.forall_mem_cons.2 ⟨alive25_d_k75, List.forall_mem_cons.2 ⟨alive25_d_k76, List.forall_mem_cons.2 ⟨alive25_d_k77, List.forall_mem_cons.2 ⟨alive25_d_k79, List.forall_mem_cons.2 ⟨alive25_d_k83, List.forall_mem_cons.2 ⟨alive25_d_k84, List.forall_mem_cons.2 ⟨alive25_d_k86, List.forall_mem_cons.2 ⟨alive25_d_k87, List.forall_mem_cons.2 ⟨alive25_d_k88, List.forall_mem_cons.2 ⟨alive25_d_k89, List.forall_mem_cons.2 ⟨alive25_d_k90, List.forall_mem_cons.2 ⟨alive25_d_k91, List.forall_mem_cons.2 ⟨alive25_d_k92, List.forall_mem_cons.2 ⟨alive25_d_k93, List.forall_mem_cons.2 ⟨alive25_d_k95, List.forall_mem_cons.2 ⟨alive25_d_k96, List.forall_mem_cons.2 ⟨alive25_d_k97, List.forall_mem_cons.2 ⟨alive25_d_k98, List.forall_mem_cons.2 ⟨alive25_d_k99, List.forall_mem_cons.2 ⟨alive25_d_k100, List.forall_mem_cons.2 ⟨alive25_d_k101, List.forall_mem_cons.2 ⟨alive25_d_k102, List.forall_mem_cons.2 ⟨alive25_d_k103, List.forall_mem_cons.2 ⟨alive25_d_k104, List.forall_mem_cons.2 ⟨alive25_d_k105, List.forall_mem_cons.2 ⟨alive25_d_k106, List.forall_mem_cons.2 ⟨alive25_d_k107, List.forall_mem_cons.2 ⟨alive25_d_k108, List.forall_mem_cons.2 ⟨alive25_d_k109, List.forall_mem_cons.2 ⟨alive25_d_k114, List.forall_mem_cons.2 ⟨alive25_d_k115, List.forall_mem_cons.2 ⟨alive25_d_k116, List.forall_mem_cons.2 ⟨alive25_d_k117, List.forall_mem_cons.2 ⟨alive25_d_k118, List.forall_mem_cons.2 ⟨alive25_d_k119, List.forall_mem_cons.2 ⟨alive25_d_k120, List.forall_mem_cons.2 ⟨alive25_d_k121, List.forall_mem_cons.2 ⟨alive25_d_k122, List.forall_mem_cons.2 ⟨alive25_d_k123, List.forall_mem_cons.2 ⟨alive25_d_k124, List.forall_mem_cons.2 ⟨alive25_d_k125, List.forall_mem_cons.2 ⟨alive25_d_k126, List.forall_mem_cons.2 ⟨alive25_d_k127, List.forall_mem_cons.2 ⟨alive25_d_k128, List.forall_mem_cons.2 ⟨alive25_d_k129, List.forall_mem_cons.2 ⟨alive25_d_k130, List.forall_mem_cons.2 ⟨alive25_d_k131, List.forall_mem_cons.2 ⟨alive25_d_k132, List.forall_mem_cons.2 ⟨alive25_d_k133, List.forall_mem_cons.2 ⟨alive25_d_k134, List.forall_mem_cons.2 ⟨alive25_d_k135, List.forall_mem_cons.2 ⟨alive25_d_k136, List.forall_mem_cons.2 ⟨alive25_d_k137, List.forall_mem_cons.2 ⟨alive25_d_k138, List.forall_mem_cons.2 ⟨alive25_d_k139, List.forall_mem_cons.2 ⟨alive25_d_k140, List.forall_mem_cons.2 ⟨alive25_d_k141, List.forall_mem_cons.2 ⟨alive25_d_k142, List.forall_mem_cons.2 ⟨alive25_d_k143, List.forall_mem_cons.2 ⟨alive25_d_k144, List.forall_mem_cons.2 ⟨alive25_d_k145, List.forall_mem_cons.2 ⟨alive25_d_k146, List.forall_mem_cons.2 ⟨alive25_d_k147, List.forall_mem_cons.2 ⟨alive25_d_k148, List.forall_mem_cons.2 ⟨alive25_d_k149, List.forall_mem_cons.2 ⟨alive25_d_k150, List.forall_mem_cons.2 ⟨alive25_d_k151, List.forall_mem_cons.2 ⟨alive25_d_k152, List.forall_mem_cons.2 ⟨alive25_d_k153, (fun _ h => nomatch h)⟩⟩⟩⟩⟩⟩⟩⟩⟩⟩⟩⟩⟩⟩⟩⟩⟩⟩⟩⟩⟩⟩⟩⟩⟩⟩⟩⟩⟩⟩⟩⟩⟩⟩⟩⟩⟩⟩⟩⟩⟩⟩⟩⟩⟩⟩⟩⟩⟩⟩⟩⟩⟩⟩⟩⟩⟩⟩⟩⟩⟩⟩⟩⟩⟩⟩⟩⟩⟩⟩⟩⟩⟩⟩⟩⟩⟩⟩⟩⟩⟩⟩⟩⟩⟩⟩⟩⟩⟩⟩⟩⟩⟩⟩⟩⟩⟩⟩
theorem alive25_d : DCall Tryz.prog 20 [] (.bool true) := (xAll_sound (orc := fun _ _ => none) orders (fun _ _ _ h => nomatch h) alive25_d_ok 30).1 _ _ _ (by kernel_rfl)
end YtihgdplbehempaaGreat
end Go.Vm
end
section
set_option linter.unusedSimpArgs false
namespace Go.Vm
open Go Go.Proofs
namespace YtihgdplbehempaaGreat
open Go.Proofs.Tryz
inductive Reach (f : Flow) (keep : List Int) (a : Int) : Int → Prop where
  | refl : Reach f keep a a
  | step {i : Int} {t : Trans} (hi : i ∈ keep) (ht : f.trans[i.toNat]? = some t) (h : Reach f keep a t.from_) : Reach f keep a t.to_
noncomputable def reachB (f : Flow) (keep : List Int) (a b : Int) : Bool := @decide (Reach f keep a b) (Classical.propDecidable _)
theorem reachB_iff {f : Flow} {keep : List Int} {a b : Int} : reachB f keep a b = true ↔ Reach f keep a b := by
  unfold reachB
  exact @decide_eq_true_iff _ (Classical.propDecidable _)
theorem Reach.trans {f : Flow} {keep : List Int} {a b c : Int} (h : Reach f keep a b) (h2 : Reach f keep b c) : Reach f keep a c := by
  induction h2 with
  | refl => exact h
  | step hi ht _ ih => exact .step hi ht ih
theorem Reach.mono {f : Flow} {keep keep' : List Int} (hk : ∀ i ∈ keep, i ∈ keep') {a b : Int} (h : Reach f keep a b) : Reach f keep' a b := by
  induction h with
  | refl => exact .refl
  | step hi ht _ ih => exact .step (hk _ hi) ht ih
noncomputable def onCyc (f : Flow) (keep : List Int) (i : Int) : Bool := match f.trans[i.toNat]? with
  | some t => reachB f keep t.to_ t.from_
  | none => false
noncomputable def cyc (f : Flow) (keep : List Int) : List Int := keep.filter (onCyc f keep)
def start (n a : Nat) : List Bool := (List.replicate n false).set a true
def Le (a b : List Bool) : Prop := a.length = b.length ∧ ∀ k : Nat, a.getD k false = true → b.getD k false = true
theorem Le.refl (a : List Bool) : Le a a := ⟨rfl, fun _ h => h⟩
theorem Le.trans {a b c : List Bool} (h : Le a b) (h2 : Le b c) : Le a c := ⟨h.1.trans h2.1, fun k hk => h2.2 k (h.2 k hk)⟩
theorem Le.set {a : List Bool} (i : Nat) : Le a (a.set i true) := ⟨by simp, fun k hk => by
  simp only [List.getD, List.getElem?_set] at hk ⊢
  by_cases e : i = k
  · subst e
    by_cases hi : i < a.length
    · simp [hi]
    · rw [List.getElem?_eq_none (by omega)] at hk; simp at hk
  · rw [if_neg e]; exact hk⟩
end YtihgdplbehempaaGreat
end Go.Vm
end
section
set_option linter.unusedSimpArgs false
set_option maxRecDepth 10000
namespace Go.Vm
open Go Go.Proofs
namespace YtihgdplbehempaaGreat
open Go.Proofs.Tryz
attribute [go_sem] Tryz.results174 Tryz.results104 Tryz.results188 Tryz.results203 Tryz.results102 Tryz.results204
abbrev tI64 : TypeId := 2
def zeroS : State := ⟨0, false, []⟩
theorem enters (g : FuncId) (h : (match Tryz.prog.funcs[g]? with | some fn => !(fn.name == "runtime.NumGoroutine") && !fn.body.isNone | none => false) = true) : Enters Tryz.prog g := by
  cases hf : Tryz.prog.funcs[g]? with
  | none => rw [hf] at h; cases h
  | some fn => rw [hf] at h; simp only [Bool.and_eq_true, Bool.not_eq_true'] at h; exact ⟨fn, hf, h.1, h.2⟩
def do1 (draws : List Int) : List Upd → Nat → List Int → Option (List Int × Nat)
  | [], n, acc => some (acc, n)
  | u :: r, n, acc => if u.any then (if wordB (draws.getD n 0) then do1 draws r (n + 1) (acc ++ [draws.getD n 0]) else none) else do1 draws r n (acc ++ [0])
def do2 (s : State) : List Upd → List Int → List Int
  | u :: r, v :: q => (if u.any then v else evalR u.expr s.vals) :: do2 s r q
  | _, _ => []
def doR (s : State) (draws : List Int) (y : Trans) : State × Nat × Int := match do1 draws y.next 0 [] with
  | none => (zeroS, 0, 2)
  | some q => if (do2 s y.next q.1).all wordB then (⟨y.to_, true, do2 s y.next q.1⟩, q.2, 0) else (zeroS, 0, 3)
def stepX (f : Flow) (s : State) (t : Int) (draws : List Int) : State × Nat × Int :=
  if t < 0 then (zeroS, 0, 8) else match f.trans[t.toNat]? with
  | none => (zeroS, 0, 8)
  | some x => if openB s x then doR s draws x else (zeroS, 0, 9)
end YtihgdplbehempaaGreat
end Go.Vm
end
section
set_option linter.unusedSimpArgs false
set_option maxRecDepth 10000
namespace Go.Vm
open Go Go.Proofs
namespace YtihgdplbehempaaGreat
open Go.Proofs.Tryz
attribute [go_sem] Tryz.results129 Tryz.results130 Tryz.results225 Tryz.results62 Tryz.results166 Tryz.results110 Tryz.results94
def walkGo (f : Flow) (c : Nat → State → Int × Bool) : Nat → Nat → State → List Int → List State → List Int → List State × List Int × Int
  | 0, _, _, _, _, _ => ([], [], 0)
  | n + 1, i, s, draws, S, T => if (c i s).2 then (if (stepX f s (c i s).1 draws).2.2 != 0 then ([], [], (stepX f s (c i s).1 draws).2.2)
      else walkGo f c n (i + 1) (stepX f s (c i s).1 draws).1 (draws.drop (stepX f s (c i s).1 draws).2.1) (S ++ [(stepX f s (c i s).1 draws).1]) (T ++ [(c i s).1])) else (S, T, 0)
def chooseT (trans : List Int) (i : Nat) (_ : State) : Int × Bool := if i = trans.length then (0, false) else (trans.getD i 0, true)
def traceR (f : Flow) (s : State) (trans draws : List Int) : List State × Int :=
  if stateErr f s != 0 then ([], stateErr f s) else if decide ((trans.length : Int) > 4096) then ([], 3) else ((walkGo f (chooseT trans) (trans.length + 1) 0 s draws [s] []).1, (walkGo f (chooseT trans) (trans.length + 1) 0 s draws [s] []).2.2)
end YtihgdplbehempaaGreat
end Go.Vm
end
section
set_option linter.unusedSimpArgs false
namespace Go.Vm
open Go Go.Proofs Go.Whole
namespace YtihgdplbehempaaGreat
open Go.Proofs.Tryz
def dotI : List Int → List Int → Int
  | c :: cs, v :: vs => c * v + dotI cs vs
  | _, _ => 0
def rowI (r : Row) (vals : List Int) : Int := dotI r.coefs vals + r.const
theorem dotI_nil (l : List Int) : dotI l [] = 0 := by cases l <;> rfl
theorem dotI_nil' (l : List Int) : dotI [] l = 0 := by cases l <;> rfl
theorem dotI_append : ∀ (a x b y : List Int), a.length = x.length → dotI (a ++ b) (x ++ y) = dotI a x + dotI b y
  | [], [], b, y, _ => by simp [dotI]
  | [], _ :: _, _, _, h => by simp at h
  | _ :: _, [], _, _, h => by simp at h
  | a :: ar, x :: xs, b, y, h => by
    have := dotI_append ar xs b y (by simpa using h)
    simp only [List.cons_append, dotI, this]; omega
theorem dotI_zip (k : Int) : ∀ (cs ds x : List Int), cs.length = ds.length → dotI (List.zipWith (fun c a => c - k * a) cs ds) x = dotI cs x - k * dotI ds x
  | [], [], x, _ => by cases x <;> simp [dotI]
  | [], _ :: _, _, h => by simp at h
  | _ :: _, [], _, h => by simp at h
  | c :: cs, d :: ds, [], _ => by simp [dotI_nil]
  | c :: cs, d :: ds, v :: x, h => by
    have := dotI_zip k cs ds x (by simpa using h)
    simp only [List.zipWith_cons_cons, dotI, this, Int.sub_mul, Int.mul_add, Int.mul_assoc]; omega
def dropGo : List Upd → List Int → List Int × Int × List Int → List Int × Int × List Int
  | u :: us, b :: bs, q => if u.any then dropGo us bs (q.1, q.2.1, q.2.2 ++ [-b]) else dropGo us bs (List.zipWith (fun x a => x - b * a) q.1 u.expr.coefs, q.2.1 - b * u.expr.const, q.2.2)
  | _, _, q => q
def dropRow (nn : Bool) (next : List Upd) (a b : Row) (d : Int) : Row :=
  ⟨nn, (dropGo next b.coefs (a.coefs, a.const - b.const - d, [])).1 ++ (dropGo next b.coefs (a.coefs, a.const - b.const - d, [])).2.2, (dropGo next b.coefs (a.coefs, a.const - b.const - d, [])).2.1⟩
def newVals : List Upd → List Int → List Int → Prop
  | u :: us, vals, n :: ns => (u.any = false → n = rowI u.expr vals) ∧ newVals us vals ns
  | [], _, [] => True
  | _, _, _ => False
def anyVals : List Upd → List Int → List Int
  | u :: us, n :: ns => if u.any then n :: anyVals us ns else anyVals us ns
  | _, _ => []
theorem dropGo_len : ∀ (us : List Upd) (bs : List Int) (q : List Int × Int × List Int), (∀ u ∈ us, u.any = false → u.expr.coefs.length = q.1.length) → (dropGo us bs q).1.length = q.1.length
  | [], bs, q, _ => by cases bs <;> rfl
  | u :: us, [], q, _ => rfl
  | u :: us, b :: bs, q, h => by
    simp only [dropGo]
    split
    · exact dropGo_len us bs _ (fun x hx => h x (by simp [hx]))
    · rename_i hu
      have hl : (List.zipWith (fun x a => x - b * a) q.1 u.expr.coefs).length = q.1.length := by
        rw [List.length_zipWith, h u (by simp) (by simpa using hu), Nat.min_self]
      rw [dropGo_len us bs _ (fun x hx => by simp only [hl]; exact h x (by simp [hx])), hl]
theorem dropGo_val : ∀ (us : List Upd) (bs ns vals : List Int) (q : List Int × Int × List Int) (e : List Int), us.length = bs.length → newVals us vals ns → (∀ u ∈ us, u.any = false → u.expr.coefs.length = q.1.length) → q.2.2.length = e.length →
    dotI (dropGo us bs q).1 vals + dotI (dropGo us bs q).2.2 (e ++ anyVals us ns) + (dropGo us bs q).2.1 = dotI q.1 vals + dotI q.2.2 e + q.2.1 - dotI bs ns
  | [], [], ns, vals, q, e, _, _, _, _ => by simp only [dropGo, anyVals, List.append_nil, dotI_nil']; omega
  | [], _ :: _, _, _, _, _, h, _, _, _ => by simp at h
  | _ :: _, [], _, _, _, _, h, _, _, _ => by simp at h
  | u :: us, b :: bs, [], vals, q, e, _, hn, _, _ => by simp [newVals] at hn
  | u :: us, b :: bs, n :: ns, vals, q, e, hl, hn, hc, he => by
    obtain ⟨h1, h2⟩ := hn
    simp only [dropGo, anyVals, dotI]
    by_cases hu : u.any = true
    · rw [if_pos hu, if_pos hu]
      have ih := dropGo_val us bs ns vals (q.1, q.2.1, q.2.2 ++ [-b]) (e ++ [n]) (by simpa using hl) h2 (fun x hx => hc x (by simp [hx])) (by simp [he])
      rw [List.append_assoc, List.singleton_append] at ih
      rw [ih]
      simp only
      rw [dotI_append _ _ _ _ he]
      simp only [dotI, Int.neg_mul]; omega
    · rw [if_neg hu, if_neg hu]
      have hu : u.any = false := by simpa using hu
      have hcl := hc u (by simp) hu
      have hzl : (List.zipWith (fun x a => x - b * a) q.1 u.expr.coefs).length = q.1.length := by rw [List.length_zipWith, hcl, Nat.min_self]
      have ih := dropGo_val us bs ns vals (List.zipWith (fun x a => x - b * a) q.1 u.expr.coefs, q.2.1 - b * u.expr.const, q.2.2) e (by simpa using hl) h2 (fun x hx => by simp only [hzl]; exact hc x (by simp [hx])) he
      rw [ih]
      simp only
      rw [dotI_zip b _ _ _ hcl.symm, h1 hu]
      simp only [rowI, Int.mul_add]; omega
theorem drop_val {nn : Bool} {next : List Upd} {a b : Row} {d : Int} {vals ns : List Int} (hb : b.coefs.length = next.length) (hn : newVals next vals ns) (hc : ∀ u ∈ next, u.any = false → u.expr.coefs.length = a.coefs.length) (hv : vals.length = a.coefs.length) :
    rowI (dropRow nn next a b d) (vals ++ anyVals next ns) = rowI a vals - rowI b ns - d := by
  have h1 := dropGo_val next b.coefs ns vals (a.coefs, a.const - b.const - d, []) [] hb.symm hn hc rfl
  have h2 : (dropGo next b.coefs (a.coefs, a.const - b.const - d, [])).1.length = a.coefs.length := dropGo_len next b.coefs (a.coefs, a.const - b.const - d, []) hc
  simp only [List.nil_append, dotI_nil'] at h1
  show dotI ((dropGo next b.coefs (a.coefs, a.const - b.const - d, [])).1 ++ (dropGo next b.coefs (a.coefs, a.const - b.const - d, [])).2.2) (vals ++ anyVals next ns) + (dropGo next b.coefs (a.coefs, a.const - b.const - d, [])).2.1 = (dotI a.coefs vals + a.const) - (dotI b.coefs ns + b.const) - d
  rw [dotI_append _ _ _ _ (by omega)]
  omega
theorem dotQ_int : ∀ (cs vs : List Int), dotQ cs (vs.map fun v => ((v : Int) : Rat)) = ((dotI cs vs : Int) : Rat)
  | [], vs => by cases vs <;> rfl
  | c :: cs, [] => by simp only [List.map_nil, dotQ, dotI]; rfl
  | c :: cs, v :: vs => by simp only [List.map_cons, dotQ, dotI, dotQ_int cs vs, Rat.intCast_add, Rat.intCast_mul]
theorem rowQ_int (r : Row) (vs : List Int) : rowQ r (vs.map fun v => ((v : Int) : Rat)) = ((rowI r vs : Int) : Rat) := by
  unfold rowQ rowI
  rw [dotQ_int, Rat.intCast_add]
theorem rowQ_nonneg {r : Row} {vs : List Int} : 0 ≤ rowQ r (vs.map fun v => ((v : Int) : Rat)) ↔ 0 ≤ rowI r vs := by
  rw [rowQ_int]
  have : ((0 : Int) : Rat) = 0 := rfl
  rw [← this]
  exact Rat.intCast_le_intCast
theorem proves_int {V : Nat} {rows : List Row} {ms : List Nat} {sc : Nat} {row : Row} {vs : List Int} (hr : ∀ r ∈ rows, r.coefs.length = V) (hrow : row.coefs.length = V) (hp : ∀ r ∈ rows, 0 ≤ rowI r vs)
    (hc : lprovW (lsumR (List.replicate V zW) ⟨true, 0⟩ rows ms) row sc = true) : 0 ≤ rowI row vs :=
  rowQ_nonneg.1 (proves_sound hr hrow (fun r h => rowQ_nonneg.2 (hp r h)) hc)
end YtihgdplbehempaaGreat
end Go.Vm
end
section
set_option linter.unusedSimpArgs false
namespace Go.Vm
open Go Go.Proofs Go.Whole
namespace YtihgdplbehempaaGreat
open Go.Proofs.Tryz
structure Stage where
  fnn : Bool
  funcs : List Row
  snn : Bool
  strict : List Int
  bnn : Bool
  bounds : List Cert
  dnn : Bool
  drops : List Cert
def Stage.tr (s : Stage) : Tr := .agg [.sl s.fnn (s.funcs.map Row.tr), .sl s.snn (ints s.strict), .sl s.bnn (s.bounds.map Cert.tr), .sl s.dnn (s.drops.map Cert.tr)]
structure Ranking where
  nn : Bool
  stages : List Stage
def Ranking.tr (r : Ranking) : Tr := .agg [.sl r.nn (r.stages.map Stage.tr)]
attribute [go_sem] Stage.tr Ranking.tr
def acceptB (V : Int) (rows : List Row) (row : Row) (f : Cert) : Bool :=
  decide (sysErr V (rows ++ [row]) = 0) && okCert rows f && lprovW (lsumR (List.replicate V.toNat zW) ⟨true, 0⟩ rows f.ms) row f.scale
def strip (r : Row) : Row := { r with nn := true }
theorem accept_sound {V : Int} {rows : List Row} {row : Row} {f : Cert} {vs : List Int} (h : acceptB V rows row f = true) (hp : ∀ r ∈ rows, 0 ≤ rowI r vs) : 0 ≤ rowI row vs := by
  simp only [acceptB, Bool.and_eq_true, decide_eq_true_eq] at h
  obtain ⟨⟨h1, h2⟩, h3⟩ := h
  obtain ⟨W, rfl, hS⟩ := sys_of h1
  obtain ⟨hsl, hr1, _, _⟩ := hS.left
  rw [Int.toNat_natCast] at h3
  exact proves_int (fun r hr => (hsl.r r hr).1) hr1 hp h3
def zeroRow : Row := ⟨false, [], 0⟩
def rowAt (l : List Row) (i : Int) : Row := l.getD i.toNat zeroRow
def anysN (l : List Upd) : Nat := (l.filter (fun u => u.any)).length
def wide (n : Nat) (r : Row) : Row := ⟨true, r.coefs ++ List.replicate n 0, r.const⟩
def hasB (l : List Int) (t : Int) : Bool := l.any (fun y => t == y)
def byOf (strict : List Int) (t : Int) : Int := if hasB strict t then 1 else 0
def transAt (f : Flow) (t : Int) : Trans := f.trans.getD t.toNat ⟨0, 0, false, [], false, []⟩
def dropOf (f : Flow) (funcs : List Row) (t : Int) (d : Int) : Row := dropRow true (transAt f t).next (rowAt funcs (transAt f t).from_) (rowAt funcs (transAt f t).to_) d
def rowSmall (r : Row) : Bool := smallB r.const && r.coefs.all smallB
def isListGo (n : Int) : Int → List Int → Bool
  | _, [] => true
  | last, x :: r => if x ≤ last ∨ x ≥ n then false else isListGo n x r
def formErr (f : Flow) (s : Stage) (left : List Int) : Int :=
  if ((s.funcs.length : Int) != f.locs) || !(s.funcs.all (rightB f.vars)) then 4
  else if s.strict.isEmpty || !isListGo f.trans.length (-1) s.strict || !(s.strict.all (hasB left)) then 4
  else if ((s.bounds.length : Int) != s.strict.length) || ((s.drops.length : Int) != left.length) then 4
  else if left.all (fun t => rowSmall (dropOf f s.funcs t (byOf s.strict t))) then 0 else 3
def boundsOk (f : Flow) (s : Stage) : List Int → List Cert → Bool
  | t :: l, c :: cs => acceptB f.vars (transAt f t).guard (rowAt s.funcs (transAt f t).from_) c && boundsOk f s l cs
  | _, _ => true
def dropsOk (f : Flow) (s : Stage) : List Int → List Cert → Bool
  | t :: l, c :: cs => acceptB (f.vars + anysN (transAt f t).next) ((transAt f t).guard.map (wide (anysN (transAt f t).next))) (dropOf f s.funcs t (byOf s.strict t)) c && dropsOk f s l cs
  | _, _ => true
def provedB (f : Flow) (s : Stage) (left : List Int) : Bool := boundsOk f s s.strict s.bounds && dropsOk f s left s.drops
def without (left strict : List Int) : List Int := left.filter (fun t => !hasB strict t)
def allT (f : Flow) : List Int := (List.range f.trans.length).map (fun (n : Nat) => (n : Int))
noncomputable def rankGo (f : Flow) (all : Bool) : List Stage → List Int → List Int × Int
  | [], left => (left, 0)
  | s :: r, left => if formErr f s left ≠ 0 then ([], formErr f s left) else if (all && !provedB f s left) = true then ([], 11) else rankGo f all r (cyc f (without left s.strict))
noncomputable def remGo (f : Flow) : List Stage → List Int → List Int
  | [], left => left
  | s :: r, left => remGo f r (cyc f (without left s.strict))
noncomputable def remaining (f : Flow) (l : List Stage) : List Int := remGo f l (cyc f (allT f))
theorem rankGo_stage {f : Flow} {all : Bool} : ∀ {l : List Stage} {left : List Int}, (rankGo f all l left).2 = 0 → ∀ (i : Nat) s, l[i]? = some s → formErr f s (remGo f (l.take i) left) = 0 ∧ (all = true → provedB f s (remGo f (l.take i) left) = true)
  | [], _, _, i, s, hs => by simp at hs
  | x :: r, left, h, i, s, hs => by
    unfold rankGo at h
    split at h
    · rename_i hne; exact absurd h hne
    · rename_i h1
      split at h
      · cases h
      · rename_i h2
        cases i with
        | zero =>
          simp at hs; subst hs
          exact ⟨Decidable.not_not.1 h1, fun ha => by simp [ha] at h2; exact h2⟩
        | succ i => exact rankGo_stage h i s (by simpa using hs)
theorem hasB_iff {l : List Int} {t : Int} : hasB l t = true ↔ t ∈ l := by simp [hasB]
structure FormOk (f : Flow) (s : Stage) (left : List Int) : Prop where
  locs : (s.funcs.length : Int) = f.locs
  right : ∀ r ∈ s.funcs, rightB f.vars r = true
  ne : s.strict ≠ []
  incr : isListGo f.trans.length (-1) s.strict = true
  sub : ∀ t ∈ s.strict, t ∈ left
  bl : s.bounds.length = s.strict.length
  dl : s.drops.length = left.length
  small : ∀ t ∈ left, rowSmall (dropOf f s.funcs t (byOf s.strict t)) = true
theorem formOk {f : Flow} {s : Stage} {left : List Int} (h : formErr f s left = 0) : FormOk f s left := by
  unfold formErr at h
  split at h; · cases h
  rename_i h1
  split at h; · cases h
  rename_i h2
  split at h; · cases h
  rename_i h3
  split at h
  · rename_i h4
    simp only [Bool.or_eq_true, Bool.not_eq_true', not_or, Bool.not_eq_true, Bool.not_eq_false, bne_eq_false_iff_eq, List.all_eq_true] at h1 h2 h3 h4
    exact ⟨h1.1, h1.2, by simpa using h2.1.1, h2.1.2, fun t ht => hasB_iff.1 (h2.2 t ht), by omega, by omega, h4⟩
  · cases h
theorem boundsOk_get {f : Flow} {s : Stage} : ∀ {l : List Int} {cs : List Cert}, boundsOk f s l cs = true → l.length ≤ cs.length → ∀ t ∈ l, ∃ c, acceptB f.vars (transAt f t).guard (rowAt s.funcs (transAt f t).from_) c = true
  | [], _, _, _, t, ht => by simp at ht
  | _ :: _, [], _, hl, _, _ => by simp at hl
  | x :: l, c :: cs, h, hl, t, ht => by
    simp only [boundsOk, Bool.and_eq_true] at h
    rcases List.mem_cons.1 ht with rfl | ht
    · exact ⟨c, h.1⟩
    · exact boundsOk_get h.2 (by simpa using hl) t ht
theorem dropsOk_get {f : Flow} {s : Stage} : ∀ {l : List Int} {cs : List Cert}, dropsOk f s l cs = true → l.length ≤ cs.length → ∀ t ∈ l, ∃ c, acceptB (f.vars + anysN (transAt f t).next) ((transAt f t).guard.map (wide (anysN (transAt f t).next))) (dropOf f s.funcs t (byOf s.strict t)) c = true
  | [], _, _, _, t, ht => by simp at ht
  | _ :: _, [], _, hl, _, _ => by simp at hl
  | x :: l, c :: cs, h, hl, t, ht => by
    simp only [dropsOk, Bool.and_eq_true] at h
    rcases List.mem_cons.1 ht with rfl | ht
    · exact ⟨c, h.1⟩
    · exact dropsOk_get h.2 (by simpa using hl) t ht
structure GoodZ (f : Flow) (s : State) : Prop where
  flow : GoodF f
  loc1 : 0 ≤ s.loc
  loc2 : s.loc < f.locs
  vals : (s.vals.length : Int) = f.vars
theorem Good.z {f : Flow} {s : State} (h : Good f s) : GoodZ f s := ⟨h.flow, h.loc1, h.loc2, h.vals⟩
def StepOk (f : Flow) (s : State) (t : Int) (s' : State) : Prop := ∃ (n : Nat) (x : Trans), t = n ∧ f.trans[n]? = some x ∧ x.from_ = s.loc ∧ (∀ r ∈ x.guard, 0 ≤ rowI r s.vals) ∧ s'.loc = x.to_ ∧ newVals x.next s.vals s'.vals ∧ GoodZ f s ∧ GoodZ f s'
theorem rowI_wide {r : Row} {vals e : List Int} {n : Nat} (h : vals.length = r.coefs.length) : rowI (wide n r) (vals ++ e) = rowI r vals := by
  unfold rowI wide
  simp only
  rw [dotI_append _ _ _ _ h.symm]
  have : ∀ (m : Nat) (l : List Int), dotI (List.replicate m 0) l = 0 := by
    intro m
    induction m with
    | zero => intro l; exact dotI_nil' l
    | succ m ih =>
      intro l
      cases l with
      | nil => exact dotI_nil _
      | cons x l => simp only [List.replicate_succ, dotI, ih]; omega
  rw [this]; omega
theorem rowAt_mem {l : List Row} {i : Int} (h0 : 0 ≤ i) (h1 : i < l.length) : rowAt l i ∈ l := by
  unfold rowAt
  rw [List.getD_eq_getElem?_getD, List.getElem?_eq_getElem (by omega)]
  exact List.getElem_mem _
theorem transAt_of {f : Flow} {n : Nat} {x : Trans} (h : f.trans[n]? = some x) : transAt f (n : Int) = x := by
  unfold transAt; simp [List.getD, h]
def stageVal (s : Stage) (a : State) : Int := rowI (rowAt s.funcs a.loc) a.vals
theorem stage_step {f : Flow} {s : Stage} {left : List Int} (hf : FormOk f s left) (hp : provedB f s left = true) {a b : State} {t : Int} (h : StepOk f a t b) (ht : t ∈ left) :
    stageVal s b ≤ stageVal s a ∧ (t ∈ s.strict → 0 ≤ stageVal s a ∧ stageVal s b ≤ stageVal s a - 1) := by
  simp only [provedB, Bool.and_eq_true] at hp
  obtain ⟨n, x, rfl, hx, hfrom, hguard, hloc, hvals, hg, hg'⟩ := h
  have hxm := List.mem_of_getElem? hx
  have hT := hg.flow.all x hxm
  have htr := transAt_of hx
  have hva := hg.vals
  have hvb := hg'.vals
  have hR : ∀ l : Int, 0 ≤ l → l < f.locs → rightB f.vars (rowAt s.funcs l) = true := fun l h0 h1 => hf.right _ (rowAt_mem h0 (by rw [hf.locs]; exact h1))
  have ha := right_len (hR a.loc hg.loc1 hg.loc2)
  have hb := right_len (hR b.loc hg'.loc1 hg'.loc2)
  have hnext := hT.next
  have hup : ∀ u ∈ x.next, u.any = false → u.expr.coefs.length = (rowAt s.funcs a.loc).coefs.length := fun u hu hany => by
    have := hT.upd u hu
    simp only [updB, hany, Bool.false_eq_true, if_false] at this
    have := right_len this
    omega
  have hval := drop_val (nn := true) (next := x.next) (a := rowAt s.funcs a.loc) (b := rowAt s.funcs b.loc) (d := byOf s.strict n) (vals := a.vals) (ns := b.vals) (by omega) hvals hup (by omega)
  obtain ⟨c, hc⟩ := dropsOk_get hp.2 (by rw [hf.dl]; exact Nat.le_refl _) _ ht
  rw [htr] at hc
  have hdrop : dropOf f s.funcs n (byOf s.strict n) = dropRow true x.next (rowAt s.funcs a.loc) (rowAt s.funcs b.loc) (byOf s.strict n) := by
    unfold dropOf; rw [htr, hfrom, hloc]
  have h0 := accept_sound (vs := a.vals ++ anyVals x.next b.vals) hc (fun r hr => by
    obtain ⟨g, hgm, rfl⟩ := List.mem_map.1 hr
    have := right_len (hT.right g hgm)
    rw [rowI_wide (by omega)]
    exact hguard g hgm)
  rw [hdrop, hval] at h0
  have hby : 0 ≤ byOf s.strict n := by unfold byOf; split <;> omega
  refine ⟨by unfold stageVal; omega, fun hs => ?_⟩
  have hby1 : byOf s.strict n = 1 := if_pos (hasB_iff.2 hs)
  obtain ⟨c2, hc2⟩ := boundsOk_get hp.1 (by rw [hf.bl]; exact Nat.le_refl _) _ hs
  rw [htr, hfrom] at hc2
  have h1 := accept_sound (vs := a.vals) hc2 hguard
  unfold stageVal
  exact ⟨h1, by omega⟩
end YtihgdplbehempaaGreat
end Go.Vm
end
section
set_option linter.unusedSimpArgs false
set_option maxRecDepth 10000
namespace Go.Vm
open Go Go.Proofs Go.Whole
namespace YtihgdplbehempaaGreat
open Go.Proofs.Tryz
attribute [go_sem] Tryz.results121 Tryz.results197 Tryz.results120 Tryz.results231 Tryz.results201 Tryz.results125 Tryz.results126 Tryz.results200 Tryz.results247 Tryz.results123 Tryz.results57
theorem GoodF.tr {f : Flow} (hf : GoodF f) {n : Nat} (hn : f.locs = n) {i : Nat} {t : Trans} (ht : f.trans[i]? = some t) : ∃ a b : Nat, t.from_ = a ∧ a < n ∧ t.to_ = b ∧ b < n := by
  have h := hf.all t (List.mem_of_getElem? ht)
  have h1 := h.from1; have h2 := h.from2; have h3 := h.to1; have h4 := h.to2
  exact ⟨t.from_.toNat, t.to_.toNat, by omega, by omega, by omega, by omega⟩
def InF (f : Flow) (keep : List Int) : Prop := ∀ i ∈ keep, 0 ≤ i ∧ i < f.trans.length
theorem InF.get {f : Flow} {keep : List Int} (h : InF f keep) {i : Int} (hi : i ∈ keep) : ∃ (j : Nat) (t : Trans), i = j ∧ f.trans[j]? = some t := by
  obtain ⟨h1, h2⟩ := h i hi
  have h3 : i.toNat < f.trans.length := by omega
  exact ⟨i.toNat, _, by omega, List.getElem?_eq_getElem h3⟩
end YtihgdplbehempaaGreat
end Go.Vm
end
section
set_option linter.unusedSimpArgs false
set_option maxRecDepth 10000
namespace Go.Vm
open Go Go.Proofs Go.Whole
namespace YtihgdplbehempaaGreat
open Go.Proofs.Tryz
attribute [go_sem] Tryz.results168 Tryz.results261 Tryz.results237 Tryz.results234 Tryz.results235 Tryz.results236 Tryz.results175 Tryz.results193 Tryz.results194 Tryz.results195
end YtihgdplbehempaaGreat
end Go.Vm
end
section
set_option linter.unusedSimpArgs false
set_option maxRecDepth 10000
namespace Go.Vm
open Go Go.Proofs Go.Whole
namespace YtihgdplbehempaaGreat
open Go.Proofs.Tryz
theorem hnext_fst (h : Hp) (d : Nat) : (hnext h d).1 = d := rfl
def HeldAt (h : Hp) (d : Nat) : Nat → List Row → Prop
  | _, [] => True
  | j, r :: l => hget h (d, j) = some ⟨(ints r.coefs).map .t, 1, r.coefs.length, tI64, false, true⟩ ∧ HeldAt h d (j + 1) l
theorem HeldAt.keep {h h' : Hp} {d : Nat} : ∀ {l : List Row} {j : Nat}, HeldAt h d j l → (∀ i, j ≤ i → i < j + l.length → hget h' (d, i) = hget h (d, i)) → HeldAt h' d j l
  | [], _, _, _ => trivial
  | x :: l, j, h1, h2 => ⟨by rw [h2 j (by omega) (by simp)]; exact h1.1, h1.2.keep fun i hi1 hi2 => h2 i (by omega) (by simp only [List.length_cons]; omega)⟩
theorem hset_self {h : Hp} {id : Id} {o : Obj} (ho : hget h id = some o) : hset h id o = h := by
  unfold hset
  funext c
  unfold upd
  split
  · rename_i e
    subst e
    unfold hget at ho
    apply List.ext_getElem?
    intro j
    rw [List.getElem?_set]
    split
    · rename_i e2
      subst e2
      rw [ho, if_pos (List.getElem?_eq_some_iff.1 ho).1]
    · rfl
  · rfl
section
variable {P : Program} {mu : Nat → Bool} {h : Hp} {t e : TypeId} {esz by_ : Nat} {ag ag' : Bool} {cs cs' : List PV} {id id' : Id} {n m : Nat}
theorem append_rfA {d : Option Tmp} {nn' : Bool} {xs : List Tr} (hel : elemB P t = some e) (hsz : P.cellsOf e = esz) (hz : (zeroB P e).map List.length = some esz) (h1 : Nat.blt 0 esz = true) (hby : P.bytesOf e = by_)
    (hx : ∀ x ∈ xs, x.cells.length = esz) (hg : hget h id = some ⟨cs, esz, n, e, ag, true⟩) (hb : (n + xs.length) * by_ ≤ 140737488355328 ∧ n + xs.length ≤ 4611686018427387904) :
    appendPV P mu d t (.rf id n) (.t (.sl nn' xs)) h = some (.rf id (n + xs.length), hset h id ⟨cs ++ (flat xs).map .t, esz, n + xs.length, e, ag, true⟩) := by
  by_cases hne : xs = []
  · subst hne
    have hpos : 0 < esz := by simp [Nat.blt] at h1; omega
    have hzz : ∃ z, zeroB P e = some z ∧ z.length = esz := by
      cases hzz : zeroB P e with
      | none => rw [hzz] at hz; cases hz
      | some z => rw [hzz] at hz; exact ⟨z, rfl, by simpa using hz⟩
    obtain ⟨z, hz1, hz2⟩ := hzz
    unfold appendPV
    simp only [hel, hz1, srcPV, flat, List.flatMap_nil, List.length_nil, Nat.zero_mul, hsz, if_true, hz2, true_and, hg, hby, Nat.add_zero, List.map_nil, List.append_nil] at hb ⊢
    rw [if_pos hpos, if_pos hb, hset_self hg]
  · exact append_rf2 hel hsz hz h1 hby hx hg hb hne
theorem append_rr {d : Option Tmp} (hel : elemB P t = some e) (hsz : P.cellsOf e = esz) (hz : (zeroB P e).map List.length = some esz) (h1 : Nat.blt 0 esz = true) (hby : P.bytesOf e = by_)
    (hg : hget h id = some ⟨cs, esz, n, e, ag, true⟩) (hg' : hget h id' = some ⟨cs', esz, m, e, ag', true⟩) (hm : Nat.blt 0 m = true) (hb : (n + m) * by_ ≤ 140737488355328 ∧ n + m ≤ 4611686018427387904) :
    appendPV P mu d t (.rf id n) (.rf id' m) h = some (.rf id (n + m), hset h id ⟨cs ++ cs', esz, n + m, e, ag, true⟩) := by
  have hpos : 0 < esz := by simp [Nat.blt] at h1; omega
  have hm0 : m ≠ 0 := by simp [Nat.blt] at hm; omega
  have hzz : ∃ z, zeroB P e = some z ∧ z.length = esz := by
    cases hzz : zeroB P e with
    | none => rw [hzz] at hz; cases hz
    | some z => rw [hzz] at hz; exact ⟨z, rfl, by simpa using hz⟩
  obtain ⟨z, hz1, hz2⟩ := hzz
  unfold appendPV
  simp only [hel, hz1, srcPV, hg', hsz, and_self, if_true, hz2, true_and, hg, hby]
  rw [if_pos hpos, if_pos hb, if_neg hm0]
end
end YtihgdplbehempaaGreat
end Go.Vm
end
section
set_option linter.unusedSimpArgs false
set_option maxRecDepth 10000
namespace Go.Vm
open Go Go.Proofs Go.Whole
namespace YtihgdplbehempaaGreat
open Go.Proofs.Tryz
def RowAt (h : Hp) (v : PV) (l : List Int) : Prop := (v = .t (.sl false []) ∧ l = []) ∨ (∃ id : Id, (id.1 = 5 ∨ id.1 = 9) ∧ v = .rf id l.length ∧ hget h id = some ⟨(ints l).map .t, 1, l.length, tI64, false, true⟩)
theorem RowAt.keep {h h' : Hp} {v : PV} {l : List Int} (hr : RowAt h v l) (h5 : h' 5 = h 5) (h9 : h' 9 = h 9) : RowAt h' v l := by
  rcases hr with hr | ⟨id, hid, h1, h2⟩
  · exact .inl hr
  · refine .inr ⟨id, hid, h1, ?_⟩
    rw [hget_site (h' := h') (h := h) (by rcases hid with e | e <;> rw [e] <;> assumption)]
    exact h2
end YtihgdplbehempaaGreat
end Go.Vm
end
section
set_option linter.unusedSimpArgs false
set_option maxRecDepth 10000
namespace Go.Vm
open Go Go.Proofs Go.Whole
namespace YtihgdplbehempaaGreat
open Go.Proofs.Tryz
theorem append_own {mu : Nat → Bool} {d : Option Tmp} {h : Hp} {id : Id} {n : Nat} {C M : List Int} {v : PV} {site : Nat} (hg : hget h id = some ⟨(ints C).map .t, 1, n, tI64, false, true⟩) (ho : Own h site tI64 1 false v (!M.isEmpty) (ints M)) (hb : n + M.length ≤ 1000000) :
    appendPV Tryz.prog mu d 35 (.rf id n) v h = some (.rf id (n + M.length), hset h id ⟨(ints (C ++ M)).map .t, 1, n + M.length, tI64, false, true⟩) := by
  have e : (ints (C ++ M)).map PV.t = (ints C).map .t ++ (flat (ints M)).map .t := by rw [flat_ints]; simp
  rw [e]
  rcases ho.is with ⟨h0, h1, rfl⟩ | ⟨h0, id2, h1, rfl, h3⟩
  · have hM : M = [] := by simpa using h1
    subst hM
    have := append_rfA (P := Tryz.prog) (mu := mu) (d := d) (t := 35) (nn' := false) (xs := []) (esz := 1) (e := tI64) (ag := false) (by_ := 8) (by kernel_rfl) (by kernel_rfl) (by kernel_rfl) rfl (by kernel_rfl) (fun y hy => by simp at hy) hg (by simp at hb ⊢; omega)
    simpa using this
  · have hl : (ints M).length = M.length := by simp
    rw [hl] at h3 ⊢
    have hM : 0 < M.length := by cases M with | nil => simp at h0 | cons => simp
    exact append_rr (esz := 1) (e := tI64) (by_ := 8) (by kernel_rfl) (by kernel_rfl) (by kernel_rfl) rfl (by kernel_rfl) hg h3 (by simp [Nat.blt]; omega) (by omega)
end YtihgdplbehempaaGreat
end Go.Vm
end
section
set_option linter.unusedSimpArgs false
set_option maxRecDepth 10000
namespace Go.Vm
open Go Go.Proofs Go.Whole
namespace YtihgdplbehempaaGreat
open Go.Proofs.Tryz
attribute [go_sem] Tryz.results191 Tryz.results229 Tryz.results230 Tryz.results233 Tryz.results232 Tryz.results260 Tryz.results170 Tryz.results192 Tryz.results114 Tryz.results45 Tryz.results58 Tryz.results48 Tryz.results49
end YtihgdplbehempaaGreat
end Go.Vm
end
section
set_option linter.unusedSimpArgs false
namespace Go.Vm
open Go Go.Proofs Go.Whole
namespace YtihgdplbehempaaGreat
open Go.Proofs.Tryz
def Exec (f : Flow) (S : List State) (T : List Int) : Prop := S.length = T.length + 1 ∧ (∀ s ∈ S, Good f s) ∧ ∀ (k : Nat) t, T[k]? = some t → ∃ a b, S[k]? = some a ∧ S[k + 1]? = some b ∧ StepOk f a t b
def CycPath (f : Flow) (p : List Int) : Prop := p ≠ [] ∧ (∀ t ∈ p, 0 ≤ t ∧ t < f.trans.length) ∧ ∀ (i : Nat) a b, p[i]? = some a → p[(i + 1) % p.length]? = some b → (transAt f a).to_ = (transAt f b).from_
theorem transAt_get {f : Flow} {t : Int} (h0 : 0 ≤ t) (h1 : t < f.trans.length) : f.trans[t.toNat]? = some (transAt f t) := by
  unfold transAt
  rw [List.getD_eq_getElem?_getD, List.getElem?_eq_getElem (by omega)]; rfl
theorem cycPath_reach {f : Flow} {p keep : List Int} (h : CycPath f p) (hk : ∀ t ∈ p, t ∈ keep) {i : Nat} {a : Int} (ha : p[i]? = some a) : ∀ (k : Nat) b, p[(i + k + 1) % p.length]? = some b → Reach f keep (transAt f a).to_ (transAt f b).from_
  | 0, b, hb => by rw [h.2.2 i a b ha hb]; exact .refl
  | k + 1, b, hb => by
    have hpos : 0 < p.length := List.length_pos_iff.2 h.1
    have hlt : (i + k + 1) % p.length < p.length := Nat.mod_lt _ hpos
    obtain ⟨c, hc⟩ : ∃ c, p[(i + k + 1) % p.length]? = some c := ⟨_, List.getElem?_eq_getElem hlt⟩
    have ih := cycPath_reach h hk ha k c hc
    have hcm := List.mem_of_getElem? hc
    obtain ⟨g0, g1⟩ := h.2.1 c hcm
    have hst := Reach.step (hk c hcm) (transAt_get g0 g1) ih
    rw [h.2.2 _ c b hc (by rw [← hb]; congr 1; rw [Nat.mod_add_mod, show i + k + 1 + 1 = i + (k + 1) + 1 by omega])] at hst
    exact hst
theorem cycPath_cyc {f : Flow} {p keep : List Int} (h : CycPath f p) (hk : ∀ t ∈ p, t ∈ keep) : ∀ t ∈ p, t ∈ cyc f keep := by
  intro t ht
  obtain ⟨i, hi⟩ := List.mem_iff_getElem?.1 ht
  have hil : i < p.length := (List.getElem?_eq_some_iff.1 hi).1
  obtain ⟨g0, g1⟩ := h.2.1 t ht
  refine List.mem_filter.2 ⟨hk t ht, ?_⟩
  unfold onCyc
  rw [transAt_get g0 g1]
  simp only
  refine reachB_iff.2 (cycPath_reach h hk hi (p.length - 1) t ?_)
  rw [show i + (p.length - 1) + 1 = i + p.length by omega, Nat.add_mod_right, Nat.mod_eq_of_lt hil]
  exact hi
structure RankOk (f : Flow) (r : Ranking) : Prop where
  flow : GoodF f
  stages : r.stages.length ≤ 32
  go : (rankGo f true r.stages (cyc f (allT f))).2 = 0
  done : remaining f r.stages = []
noncomputable def leftAt (f : Flow) (r : Ranking) (i : Nat) : List Int := remaining f (r.stages.take i)
theorem RankOk.stage {f : Flow} {r : Ranking} (h : RankOk f r) {i : Nat} {s : Stage} (hs : r.stages[i]? = some s) : FormOk f s (leftAt f r i) ∧ provedB f s (leftAt f r i) = true := by
  obtain ⟨h1, h2⟩ := rankGo_stage h.go i s hs
  exact ⟨formOk h1, h2 rfl⟩
theorem mem_allT {f : Flow} {t : Int} : t ∈ allT f ↔ 0 ≤ t ∧ t < f.trans.length := by
  unfold allT
  rw [List.mem_map]
  constructor
  · rintro ⟨n, hn, rfl⟩
    rw [List.mem_range] at hn; omega
  · rintro ⟨h0, h1⟩
    exact ⟨t.toNat, by rw [List.mem_range]; omega, by omega⟩
theorem cyc_zero {f : Flow} {r : Ranking} {p : List Int} (hp : CycPath f p) : ∀ t ∈ p, t ∈ leftAt f r 0 :=
  cycPath_cyc hp fun t ht => mem_allT.2 (hp.2.1 t ht)
theorem RankOk.last {f : Flow} {r : Ranking} (h : RankOk f r) {p : List Int} (hp : CycPath f p) : ∃ i, i < r.stages.length ∧ (∀ t ∈ p, t ∈ leftAt f r i) ∧ ∀ j, i < j → j < r.stages.length → ¬ ∀ t ∈ p, t ∈ leftAt f r j := by
  have key : ∀ d i, i + d = r.stages.length → (∀ j, i ≤ j → j < r.stages.length → ¬ ∀ t ∈ p, t ∈ leftAt f r j) ∨ ∃ i', i ≤ i' ∧ i' < r.stages.length ∧ (∀ t ∈ p, t ∈ leftAt f r i') ∧ ∀ j, i' < j → j < r.stages.length → ¬ ∀ t ∈ p, t ∈ leftAt f r j := by
    intro d
    induction d with
    | zero => intro i hi; exact .inl fun j h1 h2 => by omega
    | succ d ih =>
      intro i hi
      rcases ih (i + 1) (by omega) with h1 | ⟨i', h1, h2, h3, h4⟩
      · by_cases hc : ∀ t ∈ p, t ∈ leftAt f r i
        · exact .inr ⟨i, Nat.le_refl _, by omega, hc, fun j h2 h3 => h1 j (by omega) h3⟩
        · refine .inl fun j h2 h3 => ?_
          by_cases e : j = i
          · subst e; exact hc
          · exact h1 j (by omega) h3
      · exact .inr ⟨i', by omega, h2, h3, h4⟩
  rcases key r.stages.length 0 (by omega) with h1 | ⟨i', _, h2, h3, h4⟩
  · exfalso
    by_cases h0 : 0 < r.stages.length
    · exact h1 0 (Nat.le_refl _) h0 (cyc_zero hp)
    · have he : r.stages = [] := List.eq_nil_of_length_eq_zero (by omega)
      obtain ⟨t, ht⟩ := List.exists_mem_of_ne_nil _ hp.1
      have h2 := cyc_zero (r := r) hp t ht
      have h3 := h.done
      unfold leftAt at h2
      rw [he] at h2 h3
      simp only [List.take_nil] at h2
      rw [h3] at h2; cases h2
  · exact ⟨i', h2, h3, h4⟩
theorem isList_room {n : Int} : ∀ {l : List Int} {a : Int}, isListGo n a l = true → a < n → (l.length : Int) ≤ n - 1 - a
  | [], _, _, h => by simp; omega
  | y :: r, a, h, ha => by
    unfold isListGo at h
    split at h
    · cases h
    · rename_i hc
      have := isList_room h (by omega)
      simp only [List.length_cons]; omega
theorem isList_all {n : Int} : ∀ {l : List Int} {a : Int}, isListGo n a l = true → (l.length : Int) = n - 1 - a → ∀ x, a < x → x < n → x ∈ l
  | [], a, _, hl, x, h1, h2 => by simp at hl; omega
  | y :: r, a, h, hl, x, h1, h2 => by
    unfold isListGo at h
    split at h
    · cases h
    · rename_i hc
      have hr := isList_room h (by omega)
      simp only [List.length_cons] at hl
      have hy : y = a + 1 := by omega
      by_cases hx : x = y
      · simp [hx]
      · exact List.mem_cons_of_mem _ (isList_all h (by omega) x (by omega) h2)
theorem exec_short {f : Flow} {s : Stage} {left : List Int} (hf : FormOk f s left) (hp : provedB f s left = true) {S : List State} {T : List Int} (h : Exec f S T) (hT : ∀ t ∈ T, t ∈ s.strict) {a : State} (ha : S[0]? = some a) :
    ∀ k, k ≤ T.length → ∀ b, S[k]? = some b → stageVal s b ≤ stageVal s a - k ∧ (k < T.length → 0 ≤ stageVal s b) := by
  intro k
  induction k with
  | zero =>
    intro _ b hb
    rw [ha] at hb; cases hb
    refine ⟨by omega, fun hk => ?_⟩
    obtain ⟨x, y, h1, h2, h3⟩ := h.2.2 0 T[0] (List.getElem?_eq_getElem hk)
    rw [ha] at h1; cases h1
    have hm := hT _ (List.getElem_mem hk)
    exact ((stage_step hf hp h3 (hf.sub _ hm)).2 hm).1
  | succ k ih =>
    intro hk b hb
    obtain ⟨x, y, h1, h2, h3⟩ := h.2.2 k T[k] (List.getElem?_eq_getElem (by omega))
    rw [hb] at h2; cases h2
    have hm := hT _ (List.getElem_mem (by omega : k < T.length))
    obtain ⟨g1, g2⟩ := ih (by omega) x h1
    have g3 := ((stage_step hf hp h3 (hf.sub _ hm)).2 hm).2
    refine ⟨by omega, fun hk2 => ?_⟩
    obtain ⟨x', y', h1', h2', h3'⟩ := h.2.2 (k + 1) T[k + 1] (List.getElem?_eq_getElem hk2)
    rw [hb] at h1'; cases h1'
    have hm' := hT _ (List.getElem_mem hk2)
    exact ((stage_step hf hp h3' (hf.sub _ hm')).2 hm').1
theorem step_trans {f : Flow} {a b : State} {t : Int} (h : StepOk f a t b) : 0 ≤ t ∧ t < f.trans.length ∧ (transAt f t).from_ = a.loc ∧ (transAt f t).to_ = b.loc := by
  obtain ⟨n, x, rfl, hx, h1, _, h2, _⟩ := h
  have := (List.getElem?_eq_some_iff.1 hx).1
  rw [transAt_of hx]
  exact ⟨by omega, by omega, h1, h2.symm⟩
theorem RankOk.bound {f : Flow} {r : Ranking} (h : RankOk f r) {s : Stage} (hs : r.stages = [s]) (hl : s.strict.length = f.trans.length) {S : List State} {T : List Int} (hE : Exec f S T) {a : State} (ha : S[0]? = some a) :
    (T.length : Int) ≤ max (stageVal s a + 1) 0 := by
  obtain ⟨hf, hp⟩ := h.stage (i := 0) (s := s) (by rw [hs]; rfl)
  have hT : ∀ t ∈ T, t ∈ s.strict := by
    intro t ht
    obtain ⟨k, hk⟩ := List.mem_iff_getElem?.1 ht
    obtain ⟨x, y, _, _, h3⟩ := hE.2.2 k t hk
    obtain ⟨g0, g1, _⟩ := step_trans h3
    exact isList_all hf.incr (by omega) t (by omega) g1
  by_cases h0 : T.length = 0
  · omega
  · have hlen := hE.1
    obtain ⟨b, hb⟩ : ∃ b, S[T.length - 1]? = some b := ⟨_, List.getElem?_eq_getElem (by omega)⟩
    obtain ⟨g1, g2⟩ := exec_short hf hp hE hT ha (T.length - 1) (by omega) b hb
    have := g2 (by omega)
    omega
end YtihgdplbehempaaGreat
end Go.Vm
end
section
set_option linter.unusedSimpArgs false
namespace Go.Vm
open Go Go.Proofs Go.Whole
namespace YtihgdplbehempaaGreat
open Go.Proofs.Tryz
structure Spot where
  loc : Int
  rnn : Bool
  rows : List Row
  trans : Int
  nnn : Bool
  next : List Row
  goto : Int
  enn : Bool
  enter : List Cert
  ynn : Bool
  stay : List Cert
def Spot.tr (s : Spot) : Tr := .agg [i64 s.loc, .sl s.rnn (s.rows.map Row.tr), i64 s.trans, .sl s.nnn (s.next.map Row.tr), i64 s.goto, .sl s.enn (s.enter.map Cert.tr), .sl s.ynn (s.stay.map Cert.tr)]
structure Recur where
  start : State
  tnn : Bool
  trans : List Int
  dnn : Bool
  draws : List Int
  snn : Bool
  spots : List Spot
def Recur.cs (r : Recur) : List Tr := [i64 r.start.loc, .sl r.start.vnn (ints r.start.vals), .sl r.tnn (ints r.trans), .sl r.dnn (ints r.draws), .sl r.snn (r.spots.map Spot.tr)]
def Recur.tr (r : Recur) : Tr := .agg r.cs
attribute [go_sem] Spot.tr Recur.tr Recur.cs
def zeroSpot : Spot := ⟨0, false, [], 0, false, [], 0, false, [], false, []⟩
def spotAt (r : Recur) (i : Int) : Spot := r.spots.getD i.toNat zeroSpot
def updRows : List Upd → List Row → List Row
  | u :: us, ns => if u.any then (ns.headD zeroRow) :: updRows us ns.tail else u.expr :: updRows us ns
  | [], _ => []
def afterGo : List Row → List Int → List Int × Int → List Int × Int
  | x :: xs, b :: bs, q => afterGo xs bs (List.zipWith (fun y a => y + b * a) q.1 x.coefs, q.2 + b * x.const)
  | _, _, q => q
def afterRow (V : Nat) (r : Row) (next : List Row) : Row := ⟨true, (afterGo next r.coefs (List.replicate V 0, r.const)).1, (afterGo next r.coefs (List.replicate V 0, r.const)).2⟩
def spotErr (f : Flow) (r : Recur) (s : Spot) : Int :=
  if s.loc < 0 ∨ s.loc ≥ f.locs ∨ s.trans < 0 ∨ s.trans ≥ f.trans.length ∨ s.goto < 0 ∨ s.goto ≥ r.spots.length then 8
  else if (transAt f s.trans).from_ ≠ s.loc ∨ (transAt f s.trans).to_ ≠ (spotAt r s.goto).loc then 4
  else if s.rows.length > 16 then 3
  else if (s.rows.all (rightB f.vars) && s.next.all (rightB f.vars)) = true ∧ s.next.length = anysN (transAt f s.trans).next ∧ s.enter.length = (transAt f s.trans).guard.length ∧ s.stay.length = (spotAt r s.goto).rows.length then 0 else 4
def acceptAll (V : Int) (rows : List Row) : List Row → List Cert → Bool
  | g :: gs, c :: cs => acceptB V rows g c && acceptAll V rows gs cs
  | _, _ => true
def afterRows (f : Flow) (r : Recur) (s : Spot) : List Row := (spotAt r s.goto).rows.map (fun x => afterRow f.vars.toNat x (updRows (transAt f s.trans).next s.next))
def proofErr (f : Flow) (r : Recur) (s : Spot) : Int :=
  if acceptAll f.vars s.rows (transAt f s.trans).guard s.enter = false then 11
  else if (afterRows f r s).all (rightB f.vars) = false then 3
  else if acceptAll f.vars s.rows (afterRows f r s) s.stay = false then 11 else 0
def inSpot (s : Spot) (x : State) : Bool := (s.loc == x.loc) && s.rows.all (holdB x.vals)
def startR (f : Flow) (r : Recur) : List State × Int :=
  if stateErr f r.start ≠ 0 then ([], stateErr f r.start) else if r.start.loc ≠ f.start then ([], 4) else traceR f r.start r.trans r.draws
def lastS (l : List State) : State := l.getD (l.length - 1) zeroS
theorem dotI_zipA (k : Int) : ∀ (cs ds x : List Int), cs.length = ds.length → dotI (List.zipWith (fun c a => c + k * a) cs ds) x = dotI cs x + k * dotI ds x
  | [], [], x, _ => by cases x <;> simp [dotI]
  | [], _ :: _, _, h => by simp at h
  | _ :: _, [], _, h => by simp at h
  | c :: cs, d :: ds, [], _ => by simp [dotI_nil]
  | c :: cs, d :: ds, v :: x, h => by
    have := dotI_zipA k cs ds x (by simpa using h)
    simp only [List.zipWith_cons_cons, dotI, this, Int.add_mul, Int.mul_add, Int.mul_assoc]; omega
theorem afterGo_val (V : Nat) (vals : List Int) : ∀ (xs : List Row) (bs : List Int) (q : List Int × Int), q.1.length = V → (∀ x ∈ xs, x.coefs.length = V) →
    dotI (afterGo xs bs q).1 vals + (afterGo xs bs q).2 = dotI q.1 vals + q.2 + dotI bs (xs.map fun x => rowI x vals)
  | [], bs, q, _, _ => by cases bs <;> simp [afterGo, dotI]
  | x :: xs, [], q, _, _ => by simp [afterGo, dotI]
  | x :: xs, b :: bs, q, h, hx => by
    have hxl := hx x (by simp)
    have ih := afterGo_val V vals xs bs (List.zipWith (fun y a => y + b * a) q.1 x.coefs, q.2 + b * x.const) (by simp only [List.length_zipWith, h, hxl, Nat.min_self]) (fun y hy => hx y (by simp [hy]))
    simp only [afterGo, List.map_cons, dotI] at ih ⊢
    rw [ih, dotI_zipA b _ _ _ (by omega)]
    simp only [rowI, Int.mul_add]; omega
theorem dotI_zeros : ∀ (m : Nat) (l : List Int), dotI (List.replicate m 0) l = 0
  | 0, l => dotI_nil' l
  | m + 1, [] => dotI_nil _
  | m + 1, x :: l => by simp only [List.replicate_succ, dotI, dotI_zeros m l]; omega
theorem after_val {V : Nat} {r : Row} {next : List Row} {vals : List Int} (hx : ∀ x ∈ next, x.coefs.length = V) : rowI (afterRow V r next) vals = rowI r (next.map fun x => rowI x vals) := by
  have := afterGo_val V vals next r.coefs (List.replicate V 0, r.const) (by simp) hx
  simp only [dotI_zeros] at this
  show dotI (afterGo next r.coefs (List.replicate V 0, r.const)).1 vals + (afterGo next r.coefs (List.replicate V 0, r.const)).2 = dotI r.coefs (next.map fun x => rowI x vals) + r.const
  omega
structure StuckOk (f : Flow) (r : Recur) : Prop where
  good : Good f r.start
  start : r.start.loc = f.start
  trace : (startR f r).2 = 0
  few : r.spots.length ≤ 16
  ne : r.spots ≠ []
  spot : ∀ s ∈ r.spots, spotErr f r s = 0
  inn : inSpot (spotAt r 0) (lastS (startR f r).1) = true
  proof : ∀ s ∈ r.spots, proofErr f r s = 0
structure SpotOk (f : Flow) (r : Recur) (s : Spot) : Prop where
  loc1 : 0 ≤ s.loc
  loc2 : s.loc < f.locs
  tr1 : 0 ≤ s.trans
  tr2 : s.trans < f.trans.length
  go1 : 0 ≤ s.goto
  go2 : s.goto < r.spots.length
  from_ : (transAt f s.trans).from_ = s.loc
  to_ : (transAt f s.trans).to_ = (spotAt r s.goto).loc
  few : s.rows.length ≤ 16
  rows : ∀ x ∈ s.rows, rightB f.vars x = true
  next : ∀ x ∈ s.next, rightB f.vars x = true
  nl : s.next.length = anysN (transAt f s.trans).next
  el : s.enter.length = (transAt f s.trans).guard.length
  sl : s.stay.length = (spotAt r s.goto).rows.length
theorem spotOk {f : Flow} {r : Recur} {s : Spot} (h : spotErr f r s = 0) : SpotOk f r s := by
  unfold spotErr at h
  split at h; · cases h
  rename_i h1
  split at h; · cases h
  rename_i h2
  split at h; · cases h
  rename_i h3
  split at h
  · rename_i h4
    obtain ⟨h4, h5, h6, h7⟩ := h4
    simp only [Bool.and_eq_true, List.all_eq_true] at h4
    simp only [not_or, Decidable.not_not] at h1 h2
    exact ⟨by omega, by omega, by omega, by omega, by omega, by omega, h2.1, h2.2, by omega, h4.1, h4.2, h5, h6, h7⟩
  · cases h
theorem acceptAll_get {V : Int} {rows : List Row} : ∀ {l : List Row} {cs : List Cert}, acceptAll V rows l cs = true → l.length ≤ cs.length → ∀ g ∈ l, ∃ c, acceptB V rows g c = true
  | [], _, _, _, g, hg => by simp at hg
  | _ :: _, [], _, hl, _, _ => by simp at hl
  | x :: l, c :: cs, h, hl, g, hg => by
    simp only [acceptAll, Bool.and_eq_true] at h
    rcases List.mem_cons.1 hg with rfl | hg
    · exact ⟨c, h.1⟩
    · exact acceptAll_get h.2 (by simpa using hl) g hg
structure ProofOk (f : Flow) (r : Recur) (s : Spot) : Prop where
  enter : acceptAll f.vars s.rows (transAt f s.trans).guard s.enter = true
  small : ∀ x ∈ afterRows f r s, rightB f.vars x = true
  stay : acceptAll f.vars s.rows (afterRows f r s) s.stay = true
theorem proofOk {f : Flow} {r : Recur} {s : Spot} (h : proofErr f r s = 0) : ProofOk f r s := by
  unfold proofErr at h
  split at h; · cases h
  rename_i h1
  split at h; · cases h
  rename_i h2
  split at h; · cases h
  rename_i h3
  simp only [Bool.not_eq_false, List.all_eq_true] at h1 h2 h3
  exact ⟨h1, h2, h3⟩
theorem updRows_len : ∀ (us : List Upd) (ns : List Row), (updRows us ns).length = us.length
  | [], _ => rfl
  | u :: us, ns => by simp only [updRows]; split <;> simp [updRows_len]
theorem updRows_right {v : Int} : ∀ (us : List Upd) (ns : List Row), ns.length = anysN us → (∀ x ∈ ns, rightB v x = true) → (∀ u ∈ us, u.any = false → rightB v u.expr = true) → ∀ x ∈ updRows us ns, rightB v x = true
  | [], _, _, _, _, x, hx => by simp [updRows] at hx
  | u :: us, ns, hl, hn, hu, x, hx => by
    unfold updRows at hx
    split at hx
    · rename_i ha
      have hl2 : ns.length = anysN us + 1 := by rw [hl]; simp [anysN, List.filter_cons, ha]
      cases ns with
      | nil => simp at hl2
      | cons y ns =>
        rcases List.mem_cons.1 hx with rfl | hx
        · exact hn _ (by simp)
        · exact updRows_right us ns (by simpa using hl2) (fun z hz => hn z (by simp [hz])) (fun z hz => hu z (by simp [hz])) x hx
    · rename_i ha
      have hl2 : ns.length = anysN us := by rw [hl]; simp [anysN, List.filter_cons, ha]
      rcases List.mem_cons.1 hx with rfl | hx
      · exact hu u (by simp) (by simpa using ha)
      · exact updRows_right us ns hl2 hn (fun z hz => hu z (by simp [hz])) x hx
theorem newVals_upd {vals : List Int} : ∀ (us : List Upd) (ns : List Row), newVals us vals ((updRows us ns).map fun x => rowI x vals)
  | [], _ => trivial
  | u :: us, ns => by
    unfold updRows
    split
    · rename_i ha
      exact ⟨fun h => (by rw [ha] at h; cases h), newVals_upd us _⟩
    · exact ⟨fun _ => rfl, newVals_upd us ns⟩
def nextS (f : Flow) (s : Spot) (x : State) : State := ⟨(transAt f s.trans).to_, true, (updRows (transAt f s.trans).next s.next).map fun u => rowI u x.vals⟩
def InZ (s : Spot) (x : State) : Prop := s.loc = x.loc ∧ ∀ r ∈ s.rows, 0 ≤ rowI r x.vals
theorem spotAt_mem {r : Recur} {i : Int} (h0 : 0 ≤ i) (h1 : i < r.spots.length) : spotAt r i ∈ r.spots := by
  unfold spotAt
  rw [List.getD_eq_getElem?_getD, List.getElem?_eq_getElem (by omega)]
  exact List.getElem_mem _
theorem spot_step {f : Flow} {r : Recur} {s : Spot} (hs : SpotOk f r s) (hp : ProofOk f r s) {x : State} (hg : GoodZ f x) (hin : InZ s x) :
    StepOk f x s.trans (nextS f s x) ∧ InZ (spotAt r s.goto) (nextS f s x) ∧ GoodZ f (nextS f s x) := by
  have hx := transAt_get hs.tr1 hs.tr2
  have hT := hg.flow.all _ (List.mem_of_getElem? hx)
  have hv := hg.vals
  have hup : ∀ y ∈ updRows (transAt f s.trans).next s.next, rightB f.vars y = true := updRows_right _ _ hs.nl hs.next (fun u hu ha => by
    have := hT.upd u hu
    simpa only [updB, ha, Bool.false_eq_true, if_false] using this)
  have hg' : GoodZ f (nextS f s x) := ⟨hg.flow, hT.to1, hT.to2, by
    show ((List.map _ (updRows (transAt f s.trans).next s.next)).length : Int) = f.vars
    rw [List.length_map, updRows_len]; exact hT.next⟩
  refine ⟨⟨s.trans.toNat, transAt f s.trans, by have := hs.tr1; omega, hx, by rw [hs.from_]; exact hin.1, fun g hgm => ?_, rfl, newVals_upd _ _, hg, hg'⟩, ⟨hs.to_.symm, fun g hgm => ?_⟩, hg'⟩
  · obtain ⟨c, hc⟩ := acceptAll_get hp.enter (by rw [hs.el]; exact Nat.le_refl _) g hgm
    exact accept_sound hc hin.2
  · have hgm' : afterRow f.vars.toNat g (updRows (transAt f s.trans).next s.next) ∈ afterRows f r s := List.mem_map.2 ⟨g, hgm, rfl⟩
    obtain ⟨c, hc⟩ := acceptAll_get hp.stay (by rw [hs.sl]; simp [afterRows]) _ hgm'
    have := accept_sound hc hin.2
    rw [after_val (fun y hy => by have := right_len (hup y hy); omega)] at this
    exact this
def atN (r : Recur) : Nat → Int
  | 0 => 0
  | k + 1 => (spotAt r (atN r k)).goto
def stN (f : Flow) (r : Recur) (x : State) : Nat → State
  | 0 => x
  | k + 1 => nextS f (spotAt r (atN r k)) (stN f r x k)
theorem StuckOk.at_ {f : Flow} {r : Recur} (h : StuckOk f r) : ∀ k, 0 ≤ atN r k ∧ atN r k < r.spots.length
  | 0 => ⟨Int.le_refl _, by have := List.length_pos_iff.2 h.ne; simp only [atN]; omega⟩
  | k + 1 => by
    obtain ⟨h0, h1⟩ := h.at_ k
    have := spotOk (h.spot _ (spotAt_mem h0 h1))
    exact ⟨this.go1, this.go2⟩
theorem StuckOk.run {f : Flow} {r : Recur} (h : StuckOk f r) {x : State} (hg : GoodZ f x) (hin : InZ (spotAt r 0) x) : ∀ k, GoodZ f (stN f r x k) ∧ InZ (spotAt r (atN r k)) (stN f r x k)
  | 0 => ⟨hg, hin⟩
  | k + 1 => by
    obtain ⟨h1, h2⟩ := h.run hg hin k
    obtain ⟨g0, g1⟩ := h.at_ k
    have hm := spotAt_mem g0 g1
    obtain ⟨_, h4, h5⟩ := spot_step (spotOk (h.spot _ hm)) (proofOk (h.proof _ hm)) h1 h2
    exact ⟨h5, h4⟩
theorem StuckOk.steps {f : Flow} {r : Recur} (h : StuckOk f r) {x : State} (hg : GoodZ f x) (hin : InZ (spotAt r 0) x) (k : Nat) : StepOk f (stN f r x k) (spotAt r (atN r k)).trans (stN f r x (k + 1)) := by
  obtain ⟨h1, h2⟩ := h.run hg hin k
  obtain ⟨g0, g1⟩ := h.at_ k
  have hm := spotAt_mem g0 g1
  exact (spot_step (spotOk (h.spot _ hm)) (proofOk (h.proof _ hm)) h1 h2).1
theorem pigeon : ∀ (m : Nat) (g : Nat → Nat), (∀ k, k ≤ m → g k < m) → ∃ i j, i < j ∧ j ≤ m ∧ g i = g j
  | 0, g, h => absurd (h 0 (Nat.le_refl _)) (by omega)
  | m + 1, g, h => by
    by_cases hx : ∃ i, i ≤ m ∧ g i = g (m + 1)
    · obtain ⟨i, h1, h2⟩ := hx
      exact ⟨i, m + 1, by omega, Nat.le_refl _, h2⟩
    · have hne : ∀ i, i ≤ m → g i ≠ g (m + 1) := fun i hi e => hx ⟨i, hi, e⟩
      obtain ⟨i, j, h1, h2, h3⟩ := pigeon m (fun k => if g k = m then g (m + 1) else g k) (fun k hk => by
        have h4 := h k (by omega)
        have h5 := h (m + 1) (Nat.le_refl _)
        have h6 := hne k hk
        split <;> omega)
      refine ⟨i, j, h1, by omega, ?_⟩
      have h7 := hne i (by omega)
      have h8 := hne j h2
      split at h3 <;> split at h3 <;> omega
theorem StuckOk.loop {f : Flow} {r : Recur} (h : StuckOk f r) : ∃ i j, i < j ∧ atN r i = atN r j := by
  obtain ⟨i, j, h1, _, h3⟩ := pigeon r.spots.length (fun k => (atN r k).toNat) (fun k _ => by have := h.at_ k; omega)
  have := h.at_ i
  have := h.at_ j
  exact ⟨i, j, h1, by have h3 : (atN r i).toNat = (atN r j).toNat := h3; omega⟩
end YtihgdplbehempaaGreat
end Go.Vm
end
section
set_option linter.unusedSimpArgs false
namespace Go.Vm
open Go Go.Proofs
namespace YtihgdplbehempaaGreat
open Go.Proofs.Tryz
structure CertOk (c : Cert) : Prop where
  sc : c.scale < 18446744073709551616
  ms : ∀ m ∈ c.ms, m < 18446744073709551616
  nn : c.mnn = false → c.ms = []
theorem len1 {xs : List Tr} (h : xs.length = 1) : ∃ a, xs = [a] := by
  match xs, h with
  | [a], _ => exact ⟨a, rfl⟩
end YtihgdplbehempaaGreat
end Go.Vm
end
section
set_option linter.unusedSimpArgs false
set_option maxRecDepth 10000
namespace Go.Vm
open Go Go.Proofs Go.Whole
namespace YtihgdplbehempaaGreat
open Go.Proofs.Tryz
attribute [go_sem] Tryz.results30
theorem accepts_d (vars : Int) (rnn : Bool) (rows : List Row) (row : Row) (f : Cert) (hlen : rows.length ≤ 4398046511103) (hok : CertOk f) :
    DCall Tryz.prog 30 [i64 vars, .sl rnn (rows.map Row.tr), row.tr, f.tr] (.bool (acceptB vars rows row f)) := by
  obtain ⟨hsc, hms, hnil⟩ := hok
  have h1 := both_d2 rnn rows row hlen
  have h2 := refSys_d vars true (rows ++ [row])
  have h4 := mults_d rnn rows f.mnn f.ms
  rw [show (decide (f.ms.length = rows.length) && f.ms.all (fun m => decide (m ≤ 4611686018427387904))) = okMults rows f.ms from rfl] at h4
  by_cases he : sysErr vars (rows ++ [row]) = 0
  · obtain ⟨V, rfl, hS⟩ := sys_of he
    by_cases hm : okMults rows f.ms = true
    · by_cases hs2 : f.scale ≤ 4611686018427387904
      · have hm2 := okMults_of hm
        obtain ⟨hsl, hr1, hr2, hr3⟩ := hS.left
        have h5 := refProves_d V rnn rows row f hsl ⟨hr1, hr2, hr3⟩ (by omega) hms hsc
        obtain ⟨k1, k2⟩ := sums_start V rows f.ms (fun r hr => (hsl.r r hr).1)
        rw [proves_same row f.scale k1 k2] at h5
        have hR : acceptB V rows row f = lprovW (lsumR (List.replicate V zW) ⟨true, 0⟩ rows f.ms) row f.scale := by
          simp [acceptB, he, okCert, hm, hs2]
        rw [hR]
        rw [he] at h2
        rw [hm] at h4
        generalize lprovW _ _ _ = b at *
        have hg : decide ((f.scale : Int) ≤ 4611686018427387904) = true := by simp; omega
        clear k1 k2 hm2 hS he hms hsl hr1 hr2 hr3 hnil hlen hR hsc
        refine dcall_mk orders Tryz.func30 rfl (by kernel_rfl) noMu (by kernel_rfl) rfl (fun hs => ?_)
        clear hs
        repeat' (first
          | (with_reducible first | refine sA ?_ ?_ | refine sB ?_ ?_ | refine sC ?_ ?_ | refine sD ?_ ?_ | refine sE ?_ ?_ | refine sF ?_ ?_) <;> intro h
          | refine clK_mk (h1) rfl ?_
          | refine clK_mk (h2) rfl ?_
          | refine clK_mk (h4) rfl ?_
          | refine clK_mk (h5) rfl ?_
          | simp only [go_sem, *, beq_self_eq_true])
      · have hR : acceptB V rows row f = false := by simp [acceptB, okCert, hs2]
        rw [hR]
        rw [he] at h2
        rw [hm] at h4
        have hg : decide ((f.scale : Int) ≤ 4611686018427387904) = false := by simp; omega
        clear hS he hms hnil hlen hR hsc
        refine dcall_mk orders Tryz.func30 rfl (by kernel_rfl) noMu (by kernel_rfl) rfl (fun hs => ?_)
        clear hs
        repeat' (first
          | (with_reducible first | refine sA ?_ ?_ | refine sB ?_ ?_ | refine sC ?_ ?_ | refine sD ?_ ?_ | refine sE ?_ ?_ | refine sF ?_ ?_) <;> intro h
          | refine clK_mk (h1) rfl ?_
          | refine clK_mk (h2) rfl ?_
          | refine clK_mk (h4) rfl ?_
          | simp only [go_sem, *, beq_self_eq_true])
    · have hR : acceptB V rows row f = false := by simp [acceptB, okCert, hm]
      rw [hR]
      rw [he] at h2
      have hm : okMults rows f.ms = false := by simpa using hm
      rw [hm] at h4
      clear hS he hms hnil hlen hR hsc
      refine dcall_mk orders Tryz.func30 rfl (by kernel_rfl) noMu (by kernel_rfl) rfl (fun hs => ?_)
      clear hs
      repeat' (first
        | (with_reducible first | refine sA ?_ ?_ | refine sB ?_ ?_ | refine sC ?_ ?_ | refine sD ?_ ?_ | refine sE ?_ ?_ | refine sF ?_ ?_) <;> intro h
        | refine clK_mk (h1) rfl ?_
        | refine clK_mk (h2) rfl ?_
        | refine clK_mk (h4) rfl ?_
        | simp only [go_sem, *, beq_self_eq_true])
  · have hR : acceptB vars rows row f = false := by simp [acceptB, he]
    rw [hR]
    have hb : (sysErr vars (rows ++ [row]) == 0) = false := by simpa using he
    generalize sysErr vars (rows ++ [row]) = e at *
    clear hms hnil hlen hR hsc
    refine dcall_mk orders Tryz.func30 rfl (by kernel_rfl) noMu (by kernel_rfl) rfl (fun hs => ?_)
    clear hs
    repeat' (first
      | (with_reducible first | refine sA ?_ ?_ | refine sB ?_ ?_ | refine sC ?_ ?_ | refine sD ?_ ?_ | refine sE ?_ ?_ | refine sF ?_ ?_) <;> intro h
      | refine clK_mk (h1) rfl ?_
      | refine clK_mk (h2) rfl ?_
      | refine clK_mk (h4) rfl ?_
      | simp only [go_sem, *, beq_self_eq_true])
end YtihgdplbehempaaGreat
end Go.Vm
end
section
set_option linter.unusedSimpArgs false
set_option maxRecDepth 10000
namespace Go.Vm
open Go Go.Proofs Go.Whole Go.Simplex
namespace YtihgdplbehempaaGreat
open Go.Proofs.Tryz
attribute [go_sem] Tryz.results21 Tryz.results28 Tryz.results3 Tryz.results4
def modB (c : Int) : Bool := decide (-1000 ≤ c) && decide (c ≤ 1000)
theorem modest_d (V : Nat) (rnn : Bool) (rows : List Row) (hl : ∀ r ∈ rows, r.coefs.length ≤ 1000) (hlen : rows.length ≤ 1000000) : DCall Tryz.prog 21 [i64 (V : Nat), .sl rnn (rows.map Row.tr)] (.bool (modestB V rows)) := by
  have hm : modestB V rows = (rows.all (fun r => (r.const :: r.coefs).all modB) && decide (V ≤ 4)) := rfl
  rw [hm]
  clear hm
  refine dcall_mk orders Tryz.func21 rfl (by kernel_rfl) (fun d => d == 6 || d == 15 || d == 18 || d == 17 || d == 20) (by kernel_rfl) rfl (fun hs => ?_)
  clear hs
  repeat' (first
    | (with_reducible first | refine sA ?_ ?_ | refine sB ?_ ?_ | refine sC ?_ ?_ | refine sD ?_ ?_ | refine sE ?_ ?_ | refine sF ?_ ?_) <;> intro h
    | simp only [go_sem, *])
  refine loop_range rows (fun k s' => rows.all (fun r => (r.const :: r.coefs).all modB) = (rows.drop k).all (fun r => (r.const :: r.coefs).all modB)) rfl rfl (by first | assumption | omega) (by kernel_rfl) (fun _ _ _ _ hj => hj) (fun _ _ _ hj => hj) ?_ (fun k x s' hx hd hk hJ hix hfr G hG => ?_) (fun s' hJ hfr => ?_)
  · rfl
  · have c0 := hfr 0 (by kernel_rfl)
    have c9 := hfr 9 (by kernel_rfl)
    clear hfr
    simp only [go_sem] at c0 c9
    rw [hd, List.all_cons] at hJ
    have hlx := hl x (List.mem_of_getElem? hx)
    clear hd
    have happ : ∀ (mu : Nat → Bool) (d : Option Tmp) (h : Hp), appendPV Tryz.prog mu d 35 (.rf (hnext h 17) 1) (.t (.sl x.nn (x.coefs.map (Tr.int .i64)))) (hnew h 17 ⟨[.t (.int .i64 x.const)], 1, 1, 2, false, true⟩) = some (.rf (hnext h 17) (x.const :: x.coefs).length, hnew h 17 ⟨((x.const :: x.coefs).map (Tr.int .i64)).map .t, 1, (x.const :: x.coefs).length, 2, false, true⟩) := by
      intro mu d h
      by_cases he : x.coefs = []
      · rw [he]
        exact append_rf0 (esz := 1) (e := 2) (ag := false) (by kernel_rfl) (by kernel_rfl) (by kernel_rfl) rfl (by kernel_rfl) (hget_new _ _) (by decide)
      · rw [append_rf2 (esz := 1) (e := 2) (ag := false) (by_ := 8) (by kernel_rfl) (by kernel_rfl) (by kernel_rfl) rfl (by kernel_rfl) (fun y hy => by obtain ⟨z, _, rfl⟩ := List.mem_map.1 hy; rfl) (hget_new _ _) (by simp; omega) (by simpa using he), hset_new]
        have hfl : ∀ l : List Int, flat (l.map (Tr.int .i64)) = l.map (Tr.int .i64) := by
          intro l
          induction l with
          | nil => rfl
          | cons a l ih =>
            rw [List.map_cons]
            show [Tr.int .i64 a] ++ flat _ = _
            rw [ih]; rfl
        rw [hfl]
        simp only [List.length_map, List.length_cons, List.map_cons, List.singleton_append]
        rw [Nat.add_comm]
    repeat' (first
      | (with_reducible first | refine sA ?_ ?_ | refine sB ?_ ?_ | refine sC ?_ ?_ | refine sD ?_ ?_ | refine sE ?_ ?_ | refine sF ?_ ?_) <;> intro h
      | simp only [go_sem, *, beq_self_eq_true])
    generalize hnew s'.hp 6 _ = h6 at *
    refine loop_range (List.range (x.coefs.length + 1)) (fun k s' => hget s'.hp (hnext h6 17) = some ⟨((x.const :: x.coefs).map (Tr.int .i64)).map .t, 1, x.coefs.length + 1, tI64x, false, true⟩ ∧ (x.const :: x.coefs).all modB = ((x.const :: x.coefs).drop k).all modB) rfl (by rw [List.length_range]; rfl) (by rw [List.length_range]; first | assumption | omega) (by kernel_rfl) (fun _ _ _ _ hj => hj) (fun _ _ _ hj => hj) ?_ (fun j y u hy hyd hj hJ hjx hfr H hH => ?_) (fun u hJ hfr => ?_)
    · exact ⟨hget_new _ _, rfl⟩
    · have e0 := hfr 0 (by kernel_rfl)
      have e20 := hfr 20 (by kernel_rfl)
      clear hfr
      simp only [go_sem, c0] at e0 e20
      obtain ⟨g, hJ2⟩ := hJ
      rw [List.length_range] at hj
      have hyj : y = j := by rw [List.getElem?_range hj] at hy; injection hy with hy; exact hy.symm
      subst hyj
      clear hy hyd happ
      generalize hlq : x.const :: x.coefs = l at *
      have hll : x.coefs.length + 1 = l.length := by rw [← hlq]; rfl
      rw [hll] at hj
      obtain ⟨c, hc, hcd⟩ := get_of_lt l y hj
      have hce : ((l.map (Tr.int .i64)).map PV.t)[y]? = some (.t (.int .i64 c)) := by rw [List.getElem?_map, List.getElem?_map, hc]; rfl
      have hyl : y < x.coefs.length + 1 := by omega
      rw [hcd, List.all_cons] at hJ2
      by_cases hm : modB c = true
      · have m1 : decide (c < -1000) = false := by
          simp only [modB, Bool.and_eq_true, decide_eq_true_eq] at hm
          exact decide_eq_false (by omega)
        have m2 : decide (c > 1000) = false := by
          simp only [modB, Bool.and_eq_true, decide_eq_true_eq] at hm
          exact decide_eq_false (by omega)
        rw [hm, Bool.true_and] at hJ2
        clear hlq hll hm hJ hcd hc
        repeat' (first
          | (with_reducible first | refine sA ?_ ?_ | refine sB ?_ ?_ | refine sC ?_ ?_ | refine sD ?_ ?_ | refine sE ?_ ?_ | refine sF ?_ ?_) <;> intro h
          | simp only [go_sem, *])
        all_goals exact hH _ ⟨g, hJ2⟩
      · have hm : modB c = false := by simpa using hm
        rw [hm, Bool.false_and] at hJ2
        rw [hJ2, Bool.false_and] at hJ
        have hpick : (if decide (c < -1000) = true then true else decide (c > 1000)) = true := by
          simp only [modB, Bool.and_eq_false_iff, decide_eq_false_iff_not] at hm
          by_cases h1 : c < -1000
          · simp [h1]
          · simp [h1]; omega
        simp only [List.all_cons] at hJ
        clear hlq hll hJ2 hcd hc
        by_cases m1 : c < -1000
        · have m1 : decide (c < -1000) = true := decide_eq_true m1
          repeat' (first
            | (with_reducible first | refine sA ?_ ?_ | refine sB ?_ ?_ | refine sC ?_ ?_ | refine sD ?_ ?_ | refine sE ?_ ?_ | refine sF ?_ ?_) <;> intro h
            | simp only [go_sem, *])
        · have m2 : decide (c > 1000) = true := by simpa [m1] using hpick
          have m1 : decide (c < -1000) = false := decide_eq_false m1
          repeat' (first
            | (with_reducible first | refine sA ?_ ?_ | refine sB ?_ ?_ | refine sC ?_ ?_ | refine sD ?_ ?_ | refine sE ?_ ?_ | refine sF ?_ ?_) <;> intro h
            | simp only [go_sem, *])
    · have e0 := hfr 0 (by kernel_rfl)
      clear hfr
      simp only [go_sem, c0] at e0
      obtain ⟨g, hJ2⟩ := hJ
      rw [List.length_range, List.drop_of_length_le (by simp), List.all_nil] at hJ2
      rw [hJ2, Bool.true_and] at hJ
      clear happ hJ2
      repeat' (first
        | (with_reducible first | refine sA ?_ ?_ | refine sB ?_ ?_ | refine sC ?_ ?_ | refine sD ?_ ?_ | refine sE ?_ ?_ | refine sF ?_ ?_) <;> intro h
        | simp only [go_sem, *])
      exact hG _ hJ
  · have c0 := hfr 0 (by kernel_rfl)
    clear hfr
    simp only [go_sem] at c0
    rw [List.drop_length, List.all_nil] at hJ
    simp only [List.all_cons] at hJ
    have hV4 : decide ((V : Int) ≤ 4) = decide (V ≤ 4) := by rw [Bool.eq_iff_iff]; simp; omega
    rw [hJ, Bool.true_and, ← hV4]
    clear hJ hV4
    repeat' (first
      | (with_reducible first | refine sA ?_ ?_ | refine sB ?_ ?_ | refine sC ?_ ?_ | refine sD ?_ ?_ | refine sE ?_ ?_ | refine sF ?_ ?_) <;> intro h
      | simp only [go_sem, *])
def toRV (q : Rat) : RV := ⟨q.num, ((q.den : Nat) : Int)⟩
theorem rvT_map (p : List Rat) : p.map rvT = (p.map toRV).map RV.tr := by rw [List.map_map]; rfl
theorem toRV_q (p : List Rat) : (p.map toRV).map RV.q = p := by
  rw [List.map_map]
  have : (RV.q ∘ toRV) = id := by
    funext q
    exact Rat.num_divInt_den q
  rw [this, List.map_id]
theorem toRV_ok {p : List Rat} (h : p.all withinQ = true) : ∀ x ∈ p.map toRV, ratB x = true := by
  intro x hx
  obtain ⟨q, hq, rfl⟩ := List.mem_map.1 hx
  have := List.all_eq_true.1 h q hq
  simp only [withinQ, maxV, Bool.and_eq_true, decide_eq_true_eq] at this
  have hd := q.den_pos
  have hr := q.reduced
  have e1 : decide (((q.den : Nat) : Int) ≥ 1) = true := decide_eq_true (by omega)
  have e2 : winB ((q.den : Nat) : Int) = true := by simp only [winB, Bool.and_eq_true, decide_eq_true_eq]; omega
  have e3 : winB q.num = true := by simp only [winB, Bool.and_eq_true, decide_eq_true_eq]; omega
  have e4 : decide (Nat.gcd q.num.natAbs ((q.den : Nat) : Int).natAbs = 1) = true := decide_eq_true (by rw [Int.natAbs_natCast]; exact hr)
  show (decide (((q.den : Nat) : Int) ≥ 1) && winB ((q.den : Nat) : Int) && winB q.num && decide (Nat.gcd q.num.natAbs ((q.den : Nat) : Int).natAbs = 1)) = true
  rw [e1, e2, e3, e4]; rfl
theorem pointB_of {V : Nat} {p : List Rat} (h1 : p.length = V) (h : p.all withinQ = true) : pointB V (p.map toRV) = true := by
  simp only [pointB, List.length_map, h1, Bool.and_eq_true, List.all_eq_true]
  exact ⟨by simp, toRV_ok h⟩
theorem holds_of {rows : List Row} {p : List Rat} (h : ∀ r ∈ rows, 0 ≤ rowQ r p) : rows.all (fun r => !decide (rowQ r ((p.map toRV).map RV.q) < 0)) = true := by
  rw [toRV_q, List.all_eq_true]
  intro r hr
  rw [decide_eq_false (Rat.not_lt.2 (h r hr))]; rfl
theorem limp_bad (vars : Int) (rnn : Bool) (rows : List Row) (row : Row) (hlen : rows.length ≤ 4398046511103) (he : sysErr vars (rows ++ [row]) ≠ 0) : DCall Tryz.prog 26 [i64 vars, .sl rnn (rows.map Row.tr), row.tr] (.tup [zCert.tr, .sl false [], .bool false, i64 (sysErr vars (rows ++ [row]))]) := by
  have w1 := implied_d2 vars rnn rows row hlen
  have g : (sysErr vars (rows ++ [row]) != 0) = true := by simpa using he
  generalize sysErr vars (rows ++ [row]) = e at *
  clear he
  refine dcall_mk orders Tryz.func26 rfl (by kernel_rfl) (fun d => d == 6 || d == 33 || d == 39 || d == 47) (by kernel_rfl) rfl (fun hs => ?_)
  clear hs
  repeat' (first
    | (with_reducible first | refine sA ?_ ?_ | refine sB ?_ ?_ | refine sC ?_ ?_ | refine sD ?_ ?_ | refine sE ?_ ?_ | refine sF ?_ ?_) <;> intro h
    | refine clK_mk (w1) rfl ?_
    | simp only [go_sem, *])
  all_goals rfl
theorem zero_c : DCall Tryz.prog 28 [zCert.tr] (.bool true) := by
  have z1 : (((0 : Nat) : Int) == 0) = true := rfl
  have b6 : ((0 : Int) == 0) = true := rfl
  refine dcall_mk orders Tryz.func28 rfl (by kernel_rfl) noMu (by kernel_rfl) rfl (fun hs => ?_)
  clear hs
  repeat' (first
    | (with_reducible first | refine sA ?_ ?_ | refine sB ?_ ?_ | refine sC ?_ ?_ | refine sD ?_ ?_ | refine sE ?_ ?_ | refine sF ?_ ?_) <;> intro h
    | simp only [go_sem, *])
theorem LinearImplies_d (vars : Int) (rnn : Bool) (rows : List Row) (row : Row) (hlen : rows.length ≤ 4398046511103) (hnn : rnn = false → rows = []) : DCall Tryz.prog 4 [i64 vars, .sl rnn (rows.map Row.tr), row.tr] (.bool true) := by
  have h2 := proveError_d vars rnn rows row hlen
  have h3 := alive25_d
  have z1 : (((0 : Nat) : Int) == 0) = true := rfl
  have b6 : ((0 : Int) == 0) = true := rfl
  have hz := zero_c
  by_cases he : sysErr vars (rows ++ [row]) = 0
  · obtain ⟨V, rfl, hS⟩ := sys_of he
    rw [he] at h2
    have hV := hS.v
    have hn := hS.n
    rw [List.length_append, List.length_singleton] at hn
    obtain ⟨hsl, hr1, hr2, hr3⟩ := hS.left
    obtain ⟨io, hio, h1⟩ := implies_d (V := V) rnn hnn he
    have hbo := both_d2 rnn rows row hlen
    have hm := modest_d V true (rows ++ [row]) (fun r hr => by have := (hS.r r hr).1; omega) (by simp; omega)
    have b3 : ((3 : Int) != 0) = true := rfl
    have b4 : ((3 : Int) == 3) = true := rfl
    have b5 : ((0 : Int) != 0) = false := rfl
    cases io with
    | lim =>
      have hio : modestB V (rows ++ [row]) = false := hio
      rw [hio] at hm
      unfold IOut.tr at h1
      simp only at h1
      clear hS he h3 hio hsl hr1 hr2 hr3 hnn
      refine dcall_mk orders Tryz.func4 rfl (by kernel_rfl) (fun d => d == 7) (by kernel_rfl) rfl (fun hs => ?_)
      clear hs
      repeat' (first
        | (with_reducible first | refine sA ?_ ?_ | refine sB ?_ ?_ | refine sC ?_ ?_ | refine sD ?_ ?_ | refine sE ?_ ?_ | refine sF ?_ ?_) <;> intro h
        | refine clK_mk (h1) rfl ?_
        | refine clK_mk (h2) rfl ?_
        | refine clK_mk (hbo) rfl ?_
        | refine clK_mk (hm) rfl ?_
        | refine clK_mk (hz) rfl ?_
        | simp only [go_sem, *, beq_self_eq_true])
    | cert sc ms =>
      obtain ⟨m1, m2, m3, m4⟩ := hio
      have h4 := accepts_d V rnn rows row ⟨sc, true, ms⟩ hlen ⟨by simp only [maxV] at m3; simp only; omega, fun m hm => by have := m2 m hm; simp only [maxV] at this; omega, fun h => nomatch h⟩
      have e4 : acceptB V rows row ⟨sc, true, ms⟩ = true := by
        have e1 : okCert rows ⟨sc, true, ms⟩ = true := by
          simp only [okCert, okMults, Bool.and_eq_true, decide_eq_true_eq, List.all_eq_true]
          exact ⟨⟨m1, m2⟩, m3⟩
        simp only [acceptB, he, e1, Int.toNat_natCast, m4, decide_true, Bool.and_self]
      rw [e4] at h4
      unfold IOut.tr at h1
      simp only at h1
      clear hS he hm m1 m2 m3 m4 e4 hsl hr1 hr2 hr3 hbo hz hnn
      refine dcall_mk orders Tryz.func4 rfl (by kernel_rfl) (fun d => d == 7) (by kernel_rfl) rfl (fun hs => ?_)
      clear hs
      repeat' (first
        | (with_reducible first | refine sA ?_ ?_ | refine sB ?_ ?_ | refine sC ?_ ?_ | refine sD ?_ ?_ | refine sE ?_ ?_ | refine sF ?_ ?_) <;> intro h
        | refine clK_mk (h1) rfl ?_
        | refine clK_mk (h2) rfl ?_
        | refine clK_mk (h4) rfl ?_
        | refine clK_mk (h3) rfl ?_
        | simp only [go_sem, *, beq_self_eq_true])
    | pt p =>
      obtain ⟨p1, p2, p3, p4⟩ := hio
      unfold IOut.tr at h1
      simp only [rvT_map] at h1
      have hpl : (p.map toRV).length = V := by rw [List.length_map, p1]
      have h4 := point_d V true (p.map toRV)
      rw [pointB_of p1 p2] at h4
      have h5 := refHolds_d rnn rows true (p.map toRV) (fun r hr => by
        obtain ⟨a1, a2, a3⟩ := hsl.r r hr
        exact ⟨by rw [hpl, a1], a2, a3⟩) (by rw [hpl]; exact hV) (by omega) (toRV_ok p2)
      rw [holds_of p3] at h5
      obtain ⟨h6, h6o⟩ := at_d row true (p.map toRV) (by rw [hpl, hr1]) (by omega) hr2 hr3 (toRV_ok p2)
      have h7 := negative_d (atR row (p.map toRV)) h6o
      have e7 : decide ((atR row (p.map toRV)).p < (atR row (p.map toRV)).n) = true := by
        rw [atR_neg row _ (toRV_ok p2), toRV_q]; exact decide_eq_true p4
      rw [e7] at h7
      clear hS he hm p1 p2 p3 p4 hsl hr1 hr2 hr3 hbo hnn e7 h6o hpl
      generalize atR row (p.map toRV) = av at *
      generalize p.map toRV = qs at *
      refine dcall_mk orders Tryz.func4 rfl (by kernel_rfl) (fun d => d == 7) (by kernel_rfl) rfl (fun hs => ?_)
      clear hs
      repeat' (first
        | (with_reducible first | refine sA ?_ ?_ | refine sB ?_ ?_ | refine sC ?_ ?_ | refine sD ?_ ?_ | refine sE ?_ ?_ | refine sF ?_ ?_) <;> intro h
        | refine clK_mk (h1) rfl ?_
        | refine clK_mk (h2) rfl ?_
        | refine clK_mk (hz) rfl ?_
        | refine clK_mk (h4) rfl ?_
        | refine clK_mk (h5) rfl ?_
        | refine clK_mk (h6) rfl ?_
        | refine clK_mk (h7) rfl ?_
        | refine clK_mk (h3) rfl ?_
        | simp only [go_sem, *, beq_self_eq_true])
  · have h1 := limp_bad vars rnn rows row hlen he
    have hb2 : (sysErr vars (rows ++ [row]) != 0) = true := by simpa using he
    generalize sysErr vars (rows ++ [row]) = e at *
    clear he hnn
    refine dcall_mk orders Tryz.func4 rfl (by kernel_rfl) (fun d => d == 7) (by kernel_rfl) rfl (fun hs => ?_)
    clear hs
    repeat' (first
      | (with_reducible first | refine sA ?_ ?_ | refine sB ?_ ?_ | refine sC ?_ ?_ | refine sD ?_ ?_ | refine sE ?_ ?_ | refine sF ?_ ?_) <;> intro h
      | refine clK_mk (h1) rfl ?_
      | refine clK_mk (h2) rfl ?_
      | refine clK_mk (hz) rfl ?_
      | refine clK_mk (h3) rfl ?_
      | simp only [go_sem, *, beq_self_eq_true])
theorem LinearImplies_w (vars : Int) (rnn : Bool) (rows : List Row) (row : Row) (hlen : rows.length ≤ 4398046511103) : DCall Tryz.prog 4 [i64 vars, .sl rnn (rows.map Row.tr), row.tr] (.bool true) := by
  refine dcall_wf (enters' _ (by kernel_rfl)) fun hw => ?_
  have hnil : rnn = false → rows = [] := fun h => by
    subst h
    simp [wfL, Tr.wf] at hw
    exact hw.1.1
  exact LinearImplies_d vars rnn rows row hlen hnil
end YtihgdplbehempaaGreat
end Go.Vm
end
section
namespace Go.Proofs.YtihgdplbehempaaGreat.lb
open Go.ChangeShapes Go.WideShapes Go.ChangeAt Go.RowKit
theorem and_t {a b : Bool} (h1 : a = true) (h2 : b = true) : (a && b) = true := by rw [h1, h2]; rfl
theorem own : ownKnob Tryz.prog.godebug = none := by kernel_rfl
theorem laidOut : laidOutB Tryz.prog = true := by kernel_rfl
theorem rowed : mapsRowed Tryz.prog = true := by kernel_rfl
theorem enters : Tryz.prog.mayEnter = true := by kernel_rfl
theorem lifts : (Rows.linearSolvesRow.lifted == Tryz.prog.liftsFinal) = true := by kernel_rfl
theorem made : (Tryz.prog.make == some Rows.linearSolvesRow.make) = true := by kernel_rfl
theorem keys : (Rows.linearSolvesRow.plainKeys == Tryz.prog.plainKeys) = true := by kernel_rfl
theorem heard : Tryz.prog.stopsHeard = true := by kernel_rfl
end Go.Proofs.YtihgdplbehempaaGreat.lb
end
