/- The abstract machine: a call of a function; one operation with its guard; regions in the text's order. -/
import Derived.Test.YtajgclnahfmfmaaVm9
import Derived.Orders
namespace Go.Vm
open Go

section
variable {P : Program} {A : Nat → Prop} {mu : Nat → Bool} {h0 : Hp} {μ0 : Id → Nat} {w0 : World} {N : Nat}

/-- The frame of a call and the machine's state. -/
structure Rel (A : Nat → Prop) (h0 : Hp) (μ0 : Id → Nat) (w0 : World) (N : Nat) (s : St) (μ : Id → Nat) (a : Act) (w : World) : Prop where
  sz : a.tmps.size = N
  df : a.defers = []
  sl : ∀ t, VR s.hp μ w (LL A s.hp μ) (s.sl t) (a.tmps.getD t undef)
  hp : HR A s.hp μ w
  ext : Ext h0 μ0 w0 s.hp μ w

def okDst (N : Nat) (o : Oper) : Bool := match o.dst with | some d => decide (d < N) | none => true

theorem put_getD (a : Act) (d : Tmp) (v : Value) (t : Nat) (hd : d < a.tmps.size) : (a.put (some d) v).tmps.getD t Go.undef = if t = d then v else a.tmps.getD t Go.undef := by
  have key : ∀ b : Array Value, b.getD t Go.undef = (b[t]?).getD Go.undef := fun b => by simp [Array.getD]; split <;> simp_all
  rw [key, key]
  by_cases ht : t = d
  · subst ht; simp [Act.put, hd]
  · rw [if_neg ht]
    simp only [Act.put]
    rw [Array.getElem?_setIfInBounds_ne (fun e => ht e.symm)]

theorem Rel.step {s : St} {μ μ' : Id → Nat} {a : Act} {w w' : World} {o : Oper} {h' : Hp} {v : PV} {v' : Value} (hr : Rel A h0 μ0 w0 N s μ a w) (hd : okDst N o = true) (hp : HR A h' μ' w') (he : Ext s.hp μ w h' μ' w')
    (hv : VR h' μ' w' (LL A h' μ') v v') : Rel A h0 μ0 w0 N (St.put { s with hp := h' } o.dst v) μ' (a.put o.dst v') w' := by
  have hb := hr.ext.trans he
  cases hdst : o.dst with
  | none => exact ⟨hr.sz, hr.df, fun t => (hr.sl t).ext he, hp, hb⟩
  | some d =>
    simp only [okDst, hdst, decide_eq_true_eq] at hd
    refine ⟨by simp [Act.put, hr.sz], hr.df, fun t => ?_, hp, hb⟩
    simp only [St.put]
    rw [put_getD _ _ _ _ (by rw [hr.sz]; exact hd)]
    by_cases ht : t = d
    · subst ht; rw [if_pos rfl, upd_eq]; exact hv
    · rw [if_neg ht, upd_ne _ _ _ _ ht]; exact (hr.sl t).ext he

theorem mapO_list {h : Hp} {μ : Id → Nat} {w : World} (hr : HR A h μ w) {L' : Nat → Prop} {k : Nat} {l : List PV} {ts : List Tr} {vs : List Value} (hm : mapO (toTr h k) l = some ts) (hl : l.length = vs.length)
    (hv : ∀ (i : Nat) p, l[i]? = some p → VR h μ w (LL A h μ) p (vs.getD i Go.undef)) (hL : ∀ b, L' b → LL A h μ b) (hid : ∀ b, L' b → ∀ id ∈ l.flatMap (reach h k), μ id ≠ b) :
    ReadsL w L' ts vs.toArray := by
  refine ⟨by rw [(mapO_get hm).1, hl]; simp, fun i x hx => ?_⟩
  obtain ⟨p, hp, hpx⟩ := mapO_get' hm i x hx
  rw [list_getD_toArray]
  exact toTr_reads hr k p _ x (hv i p hp) hpx hL (fun b hb id hid' => hid b hb id (List.mem_flatMap.2 ⟨p, List.mem_of_getElem? hp, hid'⟩))

theorem callFunc_run {g : FuncId} (he : Enters P g) (args : Array Value) (w : World) : (callFunc g args).run P w = .ok (.enter g args) w := by
  obtain ⟨fn, h1, h2, h3⟩ := he
  have h2' : fn.name ≠ "runtime.NumGoroutine" := by simpa using h2
  have h3' : fn.body ≠ none := by intro e; rw [e] at h3; cases h3
  simp [callFunc, h1, h2', h3']

theorem callee_VR {s : St} {μ : Id → Nat} {a : Act} {w : World} (hs : ∀ t, VR s.hp μ w (LL A s.hp μ) (s.sl t) (a.tmps.getD t undef)) {f : Operand} {args : List Operand} {g : FuncId} {pvs : List PV}
    (hc : calleeOf s.sl f args = some (g, pvs)) : ∃ caps : Array Value, a.eval f = .func (.func g) #[] caps ∧ pvs.length = (args.map a.eval ++ caps.toList).length ∧ ∀ (i : Nat) p, pvs[i]? = some p → VR s.hp μ w (LL A s.hp μ) p ((args.map a.eval ++ caps.toList).getD i Go.undef) := by
  have hf := ev_VR hs f
  have hargs : ∀ (i : Nat) p, (evs s.sl args)[i]? = some p → VR s.hp μ w (LL A s.hp μ) p ((args.map a.eval).getD i Go.undef) := by
    intro i p hp
    rw [evs_get] at hp
    cases hx : args[i]? with
    | none => simp [hx] at hp
    | some x =>
      rw [hx] at hp
      simp only [Option.map_some, Option.some.injEq] at hp; subst hp
      simp only [List.getD, List.getElem?_map, hx, Option.map_some, Option.getD_some]
      exact ev_VR hs x
  have join : ∀ (caps : List PV) (vs : Array Value), caps.length = vs.size → (∀ (i : Nat) p, caps[i]? = some p → VR s.hp μ w (LL A s.hp μ) p (vs.getD i Go.undef)) →
      (evs s.sl args ++ caps).length = (args.map a.eval ++ vs.toList).length ∧ ∀ (i : Nat) p, (evs s.sl args ++ caps)[i]? = some p → VR s.hp μ w (LL A s.hp μ) p ((args.map a.eval ++ vs.toList).getD i Go.undef) := by
    intro caps vs hl hv
    refine ⟨by simp [evs_length, hl], fun i p hp => ?_⟩
    rw [List.getElem?_append] at hp
    simp only [List.getD]
    split at hp
    · rename_i hi
      rw [evs_length] at hi
      rw [List.getElem?_append_left (by simpa using hi)]
      exact hargs i p hp
    · rename_i hi
      rw [evs_length] at hi hp
      rw [List.getElem?_append_right (by simpa using hi)]
      have := hv _ p hp
      have hlt := (List.getElem?_eq_some_iff.1 hp).1
      simpa [Array.getD, ← hl, hlt] using this
  unfold calleeOf at hc
  split at hc <;> simp at hc
  · rename_i caps he
    obtain ⟨rfl, rfl⟩ := hc
    rw [he] at hf
    have := hf.tree
    generalize hu : a.eval f = u at this
    cases this with
    | @fn _ _ vs hl hh =>
      obtain ⟨h1, h2⟩ := join (caps.map .t) vs (by simpa using hl) (fun i p hp => by
        rw [List.getElem?_map] at hp
        cases hx : caps[i]? with
        | none => simp [hx] at hp
        | some x => simp [hx] at hp; subst hp; exact .t (hh i x hx))
      exact ⟨vs, rfl, h1, h2⟩
  · rename_i caps he
    obtain ⟨rfl, rfl⟩ := hc
    rw [he] at hf
    generalize hu : a.eval f = u at hf
    cases hf with
    | @fn _ _ vs hl hh =>
      obtain ⟨h1, h2⟩ := join caps vs hl hh
      exact ⟨vs, rfl, h1, h2⟩

theorem call_run {a : Act} {o : Oper} {c : Call} {f : Operand} (hop : o.op = .call c) (hc : c.callee = .value f) {g : FuncId} {caps : Array Value} (hf : a.eval f = .func (.func g) #[] caps) (he : Enters P g) (w : World) :
    (execOp a.eval o).run P w = .ok (.enter g (c.args.toList.map a.eval ++ caps.toList).toArray) w := by
  have hargs : #[] ++ c.args.map a.eval ++ caps = (c.args.toList.map a.eval ++ caps.toList).toArray := by
    apply Array.ext'; simp
  simp only [execOp, hop, resolve, hc, hf, Deferred.ofValue, Sem.run_bind, Sem.run_pure, Result.andThen_ok, invoke]
  rw [callFunc_run he, hargs]

/-- A CALL. -/
theorem callW_good {s : St} {μ : Id → Nat} {a : Act} {w : World} {o : Oper} {c : Call} {f : Operand} {g : FuncId} {pvs : List PV} {dr : Bool} {K : St → Prop} (hr : Rel A h0 μ0 w0 N s μ a w) (hd : okDst N o = true) (hop : o.op = .call c) (hcv : c.callee = .value f)
    (hc : calleeOf s.sl f c.args.toList = some (g, pvs)) (hK : callW P mu dr o s g pvs K) {Q : Exit → Act → World → Prop} :
    o.wp P a w (fun a' w' => ∃ s' μ', K s' ∧ Rel A h0 μ0 w0 N s' μ' a' w') Q := by
  obtain ⟨caps, hf, hlen, hvr⟩ := callee_VR hr.sl hc
  have hlt : ∀ (h : Hp), HR A h μ w → ∀ b, LL A h μ b → b < w.heap.size := by
    intro h hh b hb
    rcases hb with hA | ⟨id, oo, ho, _, rfl⟩
    · exact hh.old b hA
    · exact hh.lt ho
  -- what is left once the call is made in a world whose heap part h2 is ours
  have finish : ∀ (ts : List Tr) (r : Tr) (h2 : Hp) (L' : Nat → Prop), DCall P g ts r → HR A h2 μ w → Ext s.hp μ w h2 μ w → (∀ b, L' b → b < w.heap.size) → ReadsL w L' ts (c.args.toList.map a.eval ++ caps.toList).toArray →
      (∀ w' v, Reads w' L' r v → Reads w' (LL A h2 μ) r v) → K (St.put { s with hp := h2 } o.dst (.t r)) → o.wp P a w (fun a' w' => ∃ s' μ', K s' ∧ Rel A h0 μ0 w0 N s' μ' a' w') Q := by
    intro ts r h2 L' hcall hh2 he2 hL' hrd hres hK2
    have hrun := call_run (P := P) hop hcv hf hcall.1 w
    unfold Oper.wp
    rw [hrun, Oper.upon_enter]
    refine (hcall.2 w L' _ hL' hrd).mono fun e w'' ⟨v, he, hrv, hb⟩ => ?_
    subst he
    obtain ⟨g1, g2⟩ := Ext.grow hh2 hb
    exact ⟨_, μ, hK2, hr.step hd g1 (he2.trans g2) (.t (hres _ _ hrv))⟩
  -- a call that shares the heap
  have shared : ∀ (Q2 : PV → Hp → Prop), ICall P g pvs s.hp Q2 → (∀ v h', Q2 v h' → K (St.put { s with hp := h' } o.dst v)) → o.wp P a w (fun a' w' => ∃ s' μ', K s' ∧ Rel A h0 μ0 w0 N s' μ' a' w') Q := by
    intro Q2 hcall hK2
    have hrun := call_run (P := P) hop hcv hf hcall.1 w
    unfold Oper.wp
    rw [hrun, Oper.upon_enter]
    refine (hcall.2 w A μ _ hr.hp (by simpa using hlen) (fun i p hp => by rw [list_getD_toArray]; exact hvr i p hp)).mono fun e w'' ⟨v, x, h', μ', he, hq, g1, g2, g3⟩ => ?_
    subst he
    exact ⟨_, μ', hK2 _ _ hq, hr.step hd g1 g2 g3⟩
  have frozen : ∀ ts r, mapO (toTr s.hp dep) pvs = some ts → DCall P g ts r → K (St.put { s with hp := frz s.hp (pvs.flatMap (reach s.hp dep)) } o.dst (.t r)) → o.wp P a w (fun a' w' => ∃ s' μ', K s' ∧ Rel A h0 μ0 w0 N s' μ' a' w') Q := by
    intro ts r hm hcall hK
    obtain ⟨g1, g2⟩ := hr.hp.frz (pvs.flatMap (reach s.hp dep))
    refine finish ts r _ (LL A (frz s.hp (pvs.flatMap (reach s.hp dep))) μ) hcall g1 g2 (hlt _ g1) (mapO_list hr.hp hm hlen hvr (fun _ hb => LL_frz _ hb) (fun b hb id hid => ?_)) (fun _ _ h => h) hK
    obtain ⟨p, hp, hid'⟩ := List.mem_flatMap.1 hid
    obtain ⟨i, hi, rfl⟩ := List.mem_iff_getElem.1 hp
    exact frz_out hr.hp hb hid (reach_ex hr.hp _ _ _ (hvr i _ (List.getElem?_eq_getElem hi)) id hid')
  unfold callW at hK
  split at hK
  · rcases hK with ⟨ts, r, htr, hcall, hK⟩ | ⟨_, v, h', hcall, hK⟩
    · have := trees_get htr; subst this
      refine finish ts r s.hp (LL A s.hp μ) hcall hr.hp (Ext.refl _ _ _) (hlt _ hr.hp) ⟨by simpa using hlen, fun i x hx => ?_⟩ (fun _ _ h => h) hK
      rw [list_getD_toArray]
      exact (hvr i (.t x) (by rw [List.getElem?_map, hx]; rfl)).tree
    · rcases hcall with hcall | ⟨ts, r, hm, hcall, rfl, rfl⟩
      · exact shared _ hcall (fun v' h'' ⟨e1, e2⟩ => by rw [e1, e2]; exact hK)
      · exact frozen ts r hm hcall hK
  · rcases hK with ⟨ts, r, hm, hcall, hK⟩ | hcall
    · split at hK
      · rename_i hsc
        exact finish ts r s.hp (fun _ => False) hcall hr.hp (Ext.refl _ _ _) (fun _ h => h.elim) (mapO_list hr.hp hm hlen hvr (fun _ h => h.elim) (fun _ h => h.elim)) (fun w' v h => h.scalar hsc) hK
      · exact frozen ts r hm hcall hK
    · exact shared _ hcall (fun _ _ h => h)

theorem nextW_good {s : St} {μ : Id → Nat} {a : Act} {w : World} {o : Oper} {dr : Bool} {p : PV} {K : St → Prop} (hr : Rel A h0 μ0 w0 N s μ a w) (hd : okDst N o = true) (hp : nextPart s.sl o = some p) (hK : nextW dr o s p K) {Q : Exit → Act → World → Prop} :
    o.wp P a w (fun a' w' => ∃ s' μ', K s' ∧ Rel A h0 μ0 w0 N s' μ' a' w') Q := by
  unfold nextPart at hp
  split at hp <;> cases hp
  rename_i x hop
  unfold nextW at hK
  split at hK
  · rename_i id hx
    obtain ⟨_, hok, hall⟩ := hK
    have hv := ev_VR hr.sl x
    rw [hx] at hv
    obtain ⟨v', w', μ', s', v, h', h1, h2, h3, h4, h5, h6⟩ := next_good (P := P) (o := o) (sl := s.sl) hr.hp hv hok o.type
    unfold Oper.wp
    have hrun : (execOp a.eval o).run P w = .ok (.value v') w' := by simp only [execOp, hop, Sem.run_bind, h1, Result.andThen_ok, Sem.run_pure]
    rw [hrun, Oper.upon_value]
    refine ⟨s', μ', hall s' h2, ?_⟩
    rw [h3]
    exact hr.step hd h4 h5 h6
  · exact hK.elim

theorem opW_good {s : St} {μ : Id → Nat} {a : Act} {w : World} {o : Oper} {dr : Bool} {K : St → Prop} (hr : Rel A h0 μ0 w0 N s μ a w) (hd : okDst N o = true) (hK : opW P mu dr o s K) {Q : Exit → Act → World → Prop} :
    o.wp P a w (fun a' w' => ∃ s' μ', K s' ∧ Rel A h0 μ0 w0 N s' μ' a' w') Q := by
  have plain : plainW P mu dr o s K → o.wp P a w (fun a' w' => ∃ s' μ', K s' ∧ Rel A h0 μ0 w0 N s' μ' a' w') Q := by
    intro hh
    unfold plainW at hh
    cases hnp : nextPart s.sl o with
    | some p =>
      rw [hnp] at hh
      exact nextW_good hr hd hnp hh
    | none =>
    rw [hnp] at hh
    have hh := hh.2
    split at hh
    · rename_i v h' he
      obtain ⟨nx, v', w', μ', h1, h2, h3, h4, h5⟩ := evalOp_good (P := P) hr.sl hr.hp he
      unfold Oper.wp
      rw [h1]
      rcases h2 with rfl | ⟨rfl, rfl⟩
      · rw [Oper.upon_value]; exact ⟨_, μ', hh, hr.step hd h3 h4 h5⟩
      · rw [Oper.upon_skip]; exact ⟨_, μ', hh, hr.step hd h3 h4 h5⟩
    · exact hh.elim
  unfold opW at hK
  cases hcp : callPart s.sl o with
  | none => rw [hcp] at hK; exact plain hK
  | some q =>
    rw [hcp] at hK
    cases q with
    | none => exact hK.elim
    | some q =>
      obtain ⟨g, pvs⟩ := q
      unfold callPart at hcp
      split at hcp <;> try (simp at hcp; done)
      rename_i c hop
      split at hcp <;> try (simp at hcp; done)
      rename_i f hcv
      exact callW_good hr hd hop hcv (Option.some.inj hcp) hK

/-- An operation with its guard. -/
theorem opG_good {ops : Array Oper} {s : St} {μ : Id → Nat} {a : Act} {w : World} {i : Nat} {o : Oper} {dr : Bool} {K : St → Prop} (hi : ops[i]? = some o) (hr : Rel A h0 μ0 w0 N s μ a w) (hd : ∀ o ∈ ops.toList, okDst N o = true) (hK : opG P mu dr ops.toList o s K) {Q : Exit → Act → World → Prop} :
    wpOp P ops Q i (fun a' w' => ∃ s' μ', K s' ∧ Rel A h0 μ0 w0 N s' μ' a' w') a w := by
  have hdo : okDst N o = true := hd o (by
    have := Array.mem_of_getElem? hi
    exact Array.mem_toList_iff.2 this)
  have skip : Rel A h0 μ0 w0 N (St.put s o.dst .skip) μ (a.put o.dst undef) w := by
    have := hr.step (h' := s.hp) (v := .skip) (v' := undef) hdo hr.hp (Ext.refl _ _ _) .skip
    exact this
  unfold wpOp
  simp only [hi]
  unfold opG at hK
  cases hgr : guardRun ops.toList s.sl o with
  | none => rw [hgr] at hK; exact hK.elim
  | some r =>
    rw [hgr] at hK
    have hw : Region.wanted o (yielded ops a.tmps) = r := by
      unfold guardRun at hgr
      split at hgr
      · rename_i hg
        cases hgr
        simp [Region.wanted, hg]
      · rename_i j want hg
        unfold guardPV at hgr
        cases hj : ops[j]? with
        | none => rw [← Array.getElem?_toList] at hj; simp [hj] at hgr
        | some oj =>
          rw [← Array.getElem?_toList] at hj
          simp only [hj] at hgr
          rw [Array.getElem?_toList] at hj
          cases hdj : oj.dst with
          | none => simp [hdj] at hgr
          | some d =>
            simp only [hdj] at hgr
            have hlt : d < a.tmps.size := by
              have := hd oj (Array.mem_toList_iff.2 (Array.mem_of_getElem? hj))
              simp only [okDst, hdj, decide_eq_true_eq] at this
              rw [hr.sz]; exact this
            have hy' : yielded ops a.tmps j = (match a.tmps.getD d Go.undef with | .bool b => some b | _ => none) := by
              simp only [yielded, hj, Option.bind_some, hdj]
              have e : a.tmps.getD d Go.undef = a.tmps[d] := by simp [Array.getD, hlt]
              rw [Array.getElem?_eq_getElem hlt, e]
              generalize a.tmps[d] = u
              cases u <;> rfl
            have hsl := hr.sl d
            split at hgr <;> simp at hgr
            · rename_i b heq
              split at heq <;> simp at heq
              subst heq
              rename_i b hb
              rw [hb] at hsl
              have hv := bool_of hsl.tree
              rw [hv] at hy'
              subst hgr
              simp [Region.wanted, hg, hy']
            · rename_i heq
              split at heq <;> simp at heq
              rename_i hb
              rw [hb] at hsl
              have hv : a.tmps.getD d Go.undef = Go.undef := by
                generalize a.tmps.getD d Go.undef = u at hsl
                cases hsl; rfl
              rw [hv] at hy'
              subst hgr
              simp [Region.wanted, hg, hy', Go.undef]
    cases r with
    | true => rw [if_pos hw]; exact .inl (opW_good hr hdo (hK.1 rfl))
    | false => rw [if_neg (by rw [hw]; simp)]; exact ⟨_, μ, hK.2 rfl, skip⟩

/-- A region in the text's order. -/
theorem opsW_list {ops : Array Oper} (hd : ∀ o ∈ ops.toList, okDst N o = true) {dr : Bool} {Q : Exit → Act → World → Prop} {K : St → Prop} : ∀ (l : List Nat) (ol : List Oper) (s : St) (μ : Id → Nat) (a : Act) (w : World),
    l.length = ol.length → (∀ (k : Nat) i o, l[k]? = some i → ol[k]? = some o → ops[i]? = some o) → Rel A h0 μ0 w0 N s μ a w → opsW P mu dr ops.toList ol s K → (∀ s' μ' a' w', K s' → Rel A h0 μ0 w0 N s' μ' a' w' → Q .normal a' w') →
    wpOps P ops Q l a w := by
  intro l
  induction l with
  | nil =>
    intro ol s μ a w hl _ hr hK hQ
    have : ol = [] := List.eq_nil_of_length_eq_zero (by simpa using hl.symm)
    subst this
    simp only [wpOps]
    exact hQ s μ a w hK hr
  | cons i l ih =>
    intro ol s μ a w hl hi hr hK hQ
    cases ol with
    | nil => simp at hl
    | cons o ol =>
      rw [wpOps_cons]
      simp only [opsW] at hK
      refine wpOp_mono (fun a' w' ⟨s', μ', hK', hr'⟩ => ?_) (opG_good (hi 0 i o rfl rfl) hr hd hK)
      exact ih ol s' μ' a' w' (by simpa using hl) (fun k i o h1 h2 => hi (k + 1) i o (by simpa using h1) (by simpa using h2)) hr' hK' hQ
end
end Go.Vm
