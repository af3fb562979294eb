/- The abstract machine: each operation that is no call of a function does in the model's world what it does in the machine. -/
import Derived.Test.YtajgclnahfmfmaaVm3
import Derived.Great.BuildSlice
import Derived.Laws.Cover3
import Derived.Laws.AppendOwn
namespace Go.Vm
open Go

/-! ## types -/
section
variable {P : Program} {t : TypeId}
theorem info_of_underlying {d : TypeDesc} (h : P.underlying t = some d) : ∃ i, P.info? t = some i := by
  unfold Program.underlying at h
  cases hi : P.info? t with
  | none => simp [hi] at h
  | some i => exact ⟨i, rfl⟩
theorem run_sizeOf_info (w : World) (h : (P.info? t).isSome) : (sizeOf t).run P w = .ok (P.cellsOf t) w := by
  obtain ⟨i, hi⟩ := Option.isSome_iff_exists.1 h
  simp [sizeOf, typeInfo, hi, Program.cellsOf]
theorem agg_under {b : Bool} (h : aggB P t = some b) : ∃ d, P.underlying t = some d ∧ (match d with | .struct _ | .array _ _ => true | _ => false) = b := by
  unfold aggB at h
  cases hu : P.underlying t with
  | none => simp [hu] at h
  | some d => cases d <;> simp [hu] at h <;> exact ⟨_, rfl, by simp [h]⟩
theorem agg_info {b : Bool} (h : aggB P t = some b) : (P.info? t).isSome := by
  obtain ⟨d, hd, _⟩ := agg_under h
  obtain ⟨i, hi⟩ := info_of_underlying hd
  simp [hi]
theorem run_isAgg (w : World) {b : Bool} (h : aggB P t = some b) : (isAgg t).run P w = .ok b w := by
  obtain ⟨d, hd, hb⟩ := agg_under h
  unfold isAgg
  rw [Sem.run_bind, run_underlying hd w]
  cases d <;> simp_all
theorem elem_under {e : TypeId} (h : elemB P t = some e) : P.underlying t = some (.slice e) ∧ (P.info? e).isSome := by
  unfold elemB at h
  cases hu : P.underlying t with
  | none => simp [hu] at h
  | some d => cases d <;> simp [hu] at h; obtain ⟨h1, rfl⟩ := h; exact ⟨rfl, h1⟩
theorem field_under {i off : Nat} {ft : TypeId} (h : fieldB P t i = some (off, ft)) : ∃ fs f, P.underlying t = some (.struct fs) ∧ fs[i]? = some f ∧ f.offset = off ∧ f.type = ft ∧ (P.info? ft).isSome ∧ P.cellsOf ft ≠ 0 := by
  unfold fieldB at h
  cases hu : P.underlying t with
  | none => simp [hu] at h
  | some d =>
    cases d <;> simp [hu] at h
    rename_i fs
    cases hf : fs[i]? with
    | none => simp [hf] at h
    | some f => simp [hf] at h; obtain ⟨⟨h1, h2⟩, rfl, rfl⟩ := h; exact ⟨fs, f, rfl, hf, rfl, rfl, h1, h2⟩
end

/-! ## constants, operands -/
theorem cvV_reads {w : World} {L : Nat → Prop} {v : Value} {x : Tr} (h : cvV v = some x) : Reads w L x v := by
  unfold cvV at h
  split at h <;> simp at h <;> subst h
  · exact .int _ _
  · exact .bool _
  · exact .str _
  · exact .nil
  · exact .nilp
theorem cvV_one {v : Value} {x : Tr} (h : cvV v = some x) : v.oneCell' = true := by
  unfold cvV at h
  split at h <;> simp at h <;> rfl
theorem cvs_get : ∀ {l : List Value} {r : List Tr}, cvs l = some r → r.length = l.length ∧ ∀ (i : Nat) x, r[i]? = some x → ∃ v, l[i]? = some v ∧ cvV v = some x
  | [], r, h => by simp [cvs] at h; subst h; exact ⟨rfl, fun i x hi => by simp at hi⟩
  | v :: l, r, h => by
    simp only [cvs] at h
    split at h
    · rename_i x ts hx hts
      simp at h; subst h
      obtain ⟨h1, h2⟩ := cvs_get hts
      refine ⟨by simp [h1], fun i y hi => ?_⟩
      cases i with
      | zero => simp at hi; subst hi; exact ⟨v, rfl, hx⟩
      | succ i => simpa using h2 i y (by simpa using hi)
    · cases h

section
variable {A : Nat → Prop} {h : Hp} {μ : Id → Nat} {w : World} {L : Nat → Prop}

theorem ev_VR {sl : Sl} {a : Act} (hs : ∀ t, VR h μ w L (sl t) (a.tmps.getD t undef)) (x : Operand) : VR h μ w L (ev sl x) (a.eval x) := by
  cases x with
  | tmp t => exact hs t
  | const v =>
    simp only [ev, Act.eval]
    cases hc : cvV v with
    | none => exact .undef
    | some y => exact .t (cvV_reads hc)
  | global g => exact .undef
  | func f => exact .t (.fn (by simp) (fun i x hi => by simp at hi))

theorem VR.one {p : PV} {v : Value} (hv : VR h μ w L p v) (h1 : p.one = true) : v.oneCell' = true := by
  cases hv with
  | t hr => cases hr <;> first | rfl | simp [PV.one] at h1
  | ro => rfl
  | rf _ _ _ h1 => exact h1
  | ad _ _ _ h1 => exact h1
  | fn => rfl
  | mp => rfl
  | it => rfl
  | _ => simp [PV.one] at h1

theorem VR.cells {p : PV} {v : Value} (hv : VR h μ w L p v) (h1 : p.cells.all PV.one = true) :
    p.cells.length = v.cells.size ∧ ∀ (k : Nat) q, p.cells[k]? = some q → VR h μ w L q (v.cells.getD k Go.undef) ∧ (v.cells.getD k Go.undef).oneCell' = true := by
  have single : p.cells = [p] → v.cells = #[v] → p.cells.length = v.cells.size ∧ ∀ (k : Nat) q, p.cells[k]? = some q → VR h μ w L q (v.cells.getD k Go.undef) ∧ (v.cells.getD k Go.undef).oneCell' = true := by
    intro e1 e2
    rw [e1, e2]
    refine ⟨rfl, fun k q hk => ?_⟩
    cases k with
    | zero => simp at hk; subst hk; rw [e1] at h1; exact ⟨hv, by simp at h1; exact hv.one h1⟩
    | succ k => simp at hk
  cases hv with
  | @t x v hr =>
    cases hr with
    | @agg l vs hl hh =>
      refine ⟨by simp [PV.cells, Value.cells, hl], fun k q hk => ?_⟩
      simp only [PV.cells] at hk h1
      rw [List.getElem?_map] at hk
      cases hx : l[k]? with
      | none => simp [hx] at hk
      | some y =>
        simp [hx] at hk; subst hk
        have hy : PV.one (.t y) = true := by
          rw [List.all_eq_true] at h1
          exact h1 _ (List.mem_map.2 ⟨y, List.mem_of_getElem? hx, rfl⟩)
        have hv' : VR h μ w L (.t y) (vs.getD k Go.undef) := .t (hh k y hx)
        exact ⟨hv', hv'.one hy⟩
    | tup => simp [PV.cells, PV.one] at h1
    | _ => exact single rfl rfl
  | @agg l vs hl hh =>
    refine ⟨by simp [PV.cells, Value.cells, hl], fun k q hk => ?_⟩
    simp only [PV.cells] at hk h1
    have hy : PV.one q = true := by
      rw [List.all_eq_true] at h1
      exact h1 _ (List.mem_of_getElem? hk)
    exact ⟨hh k q hk, (hh k q hk).one hy⟩
  | tup => simp [PV.cells, PV.one] at h1
  | skip => simp [PV.cells, PV.one] at h1
  | undef => simp [PV.cells, PV.one] at h1
  | rf ho hz hn h1' hv' => exact single rfl (by cases v <;> first | rfl | (simp [Value.oneCell'] at h1'))
  | ad ho hz hn h1' hv' => exact single rfl (by cases v <;> first | rfl | (simp [Value.oneCell'] at h1'))
  | _ => exact single rfl rfl

theorem trees_get : ∀ {l : List PV} {ts : List Tr}, trees l = some ts → l = ts.map .t
  | [], ts, hh => by simp [trees] at hh; subst hh; rfl
  | p :: r, ts, hh => by
    cases p <;> simp [trees] at hh
    split at hh
    · rename_i us hus
      simp at hh; subst hh
      simp [trees_get hus]
    · cases hh

theorem VR.tree {x : Tr} {v : Value} (hv : VR h μ w L (.t x) v) : Reads w L x v := by cases hv; assumption

theorem VR.mkAgg {l : List PV} {vs : Array Value} (hl : l.length = vs.size) (hr : ∀ (i : Nat) x, l[i]? = some x → VR h μ w L x (vs.getD i Go.undef)) : VR h μ w L (mkAgg l) (.agg vs) := by
  unfold Vm.mkAgg
  split
  · rename_i ts hts
    have := trees_get hts; subst this
    refine .t (.agg (by simpa using hl) fun i x hx => (hr i (.t x) (by rw [List.getElem?_map, hx]; rfl)).tree)
  · exact .agg hl hr
theorem VR.lift {p : PV} {v : Value} (hv : VR h μ w L p v) : VR h μ w L p.lift v := by
  cases hv with
  | ro hs hcell hr => exact .t (.ptr hs hcell hr)
  | t hr => exact .t hr
  | rf ho hz hn h1 hv => exact .rf ho hz hn h1 hv
  | ad ho hz hn h1 hv => exact .ad ho hz hn h1 hv
  | mp ho hz hg => exact .mp ho hz hg
  | it ho hz hg => exact .it ho hz hg
  | agg hl hr => exact .agg hl hr
  | tup hl hr => exact .tup hl hr
  | fn hl hr => exact .fn hl hr
  | skip => exact .skip
  | undef => exact .undef
theorem VR.mkFn {f : FuncId} {l : List PV} {vs : Array Value} (hl : l.length = vs.size) (hr : ∀ (i : Nat) x, l[i]? = some x → VR h μ w L x (vs.getD i Go.undef)) : VR h μ w L (mkFn f l) (.func (.func f) #[] vs) := by
  unfold Vm.mkFn
  split
  · rename_i ts hts
    have hm := trees_get hts
    have hlen : ts.length = l.length := by have := congrArg List.length hm; simpa using this.symm
    refine .t (.fn (by rw [hlen]; exact hl) fun i x hx => ?_)
    have h1 : (l.map PV.lift)[i]? = some (.t x) := by rw [hm, List.getElem?_map, hx]; rfl
    rw [List.getElem?_map] at h1
    cases hp : l[i]? with
    | none => rw [hp] at h1; cases h1
    | some p =>
      rw [hp] at h1
      have h2 := (hr i p hp).lift
      simp only [Option.map_some, Option.some.injEq] at h1
      rw [h1] at h2
      exact h2.tree
  · exact .fn hl hr
end

/-! ## one operation -/
def Good (A : Nat → Prop) (h : Hp) (μ : Id → Nat) (w : World) (r : Result Next) (v : PV) (h' : Hp) : Prop :=
  ∃ nx v' w' μ', r = .ok nx w' ∧ (nx = .value v' ∨ (nx = .skip ∧ v' = undef)) ∧ HR A h' μ' w' ∧ Ext h μ w h' μ' w' ∧ VR h' μ' w' (LL A h' μ') v v'

section
variable {P : Program} {A : Nat → Prop} {h : Hp} {μ : Id → Nat} {w : World}

theorem Good.quiet (hr : HR A h μ w) {v : PV} {v' : Value} (hv : VR h μ w (LL A h μ) v v') : Good A h μ w (.ok (.value v') w) v h :=
  ⟨_, v', w, μ, rfl, .inl rfl, hr, Ext.refl h μ w, hv⟩

theorem add_lit (b o k : Nat) : (⟨b, o, none⟩ : Addr).add k = ⟨b, o + k, none⟩ := by unfold Addr.add; split <;> simp_all
theorem add_add (a : Addr) (hs : a.spot = none) (i j : Nat) : (a.add i).add j = a.add (i + j) := by
  obtain ⟨b, o, s⟩ := a
  simp only at hs; subst hs
  rw [add_lit, add_lit, add_lit, Nat.add_assoc]
theorem add_spot (a : Addr) (hs : a.spot = none) (i : Nat) : (a.add i).spot = none := by
  obtain ⟨b, o, s⟩ := a
  simp only at hs; subst hs
  rw [add_lit]

theorem run_loadVar_agg {t : TypeId} (a : Addr) (vals : List Value) (hag : aggB P t = some true) (hl : vals.length = P.cellsOf t) (hc : ∀ (j : Nat) v, vals[j]? = some v → w.cell? (a.add j) = some v) :
    (loadVar t a).run P w = .ok (.agg vals.toArray) w := by
  have := run_loadCells_list (P := P) w a vals hc
  rw [hl] at this
  simp [loadVar, run_isAgg w hag, run_sizeOf_info w (agg_info hag), this]
theorem run_loadVar_cell {t : TypeId} (a : Addr) (v : Value) (hag : aggB P t = some false) (hc : w.cell? a = some v) : (loadVar t a).run P w = .ok v w := by
  simp [loadVar, run_isAgg w hag, run_load, hc]

theorem list_getD_toArray (l : List Value) (k : Nat) : l.toArray.getD k Go.undef = l.getD k Go.undef := by simp [Array.getD, List.getD]; split <;> simp_all

/-- the cells of a row at an offset -/
theorem row_cell {g off k : Nat} {cur : Array Value} {et : TypeId} {fz : Nat × Nat} (hb : w.heap[g]? = some (.cells cur et fz)) (hk : off + k < cur.size) :
    w.cell? ((⟨g, off, none⟩ : Addr).add k) = some (cur.getD (off + k) Go.undef) := by
  rw [add_lit]
  simp [World.cell?, hb, hk, Array.getD]

theorem load_good (hr : HR A h μ w) {t : TypeId} {p v : PV} {u : Value} (hp : VR h μ w (LL A h μ) p u) (hl : loadPV P t p h = some v) :
    ∃ v', (Instr.loadAt t u).run P w = .ok v' w ∧ VR h μ w (LL A h μ) v v' := by
  unfold loadPV at hl
  split at hl
  · -- ro, agg
    rename_i cs hag
    split at hl <;> simp at hl
    subst hl
    rename_i hlen
    cases hp with
    | @ro _ a vals hs hcell hrd =>
      refine ⟨.agg ((List.range (P.cellsOf t)).map vals).toArray, ?_, ?_⟩
      · simp only [Instr.loadAt, Instr.sureAddr, Sem.run_bind, Sem.run_pure, Result.andThen_ok]
        refine run_loadVar_agg a _ hag (by simp) fun j v hj => ?_
        rw [List.getElem?_map] at hj
        by_cases hjl : j < P.cellsOf t
        · have hjc : j < cs.length := by rw [List.length_take] at hlen; omega
          rw [List.getElem?_range hjl] at hj
          simp at hj; subst hj
          exact (hcell j cs[j] (List.getElem?_eq_getElem hjc)).2.1
        · simp [List.getElem?_eq_none (by simp; omega : (List.range (P.cellsOf t)).length ≤ j)] at hj
      · refine .t (.agg (by simp only [List.size_toArray, List.length_map, List.length_range]; exact hlen) fun i x hx => ?_)
        rw [List.getElem?_take] at hx
        split at hx
        · rename_i hi
          rw [list_getD_toArray]
          simp only [List.getD, List.getElem?_map, List.getElem?_range hi, Option.map_some, Option.getD_some]
          exact hrd i x hx
        · cases hx
  · -- ro, one cell
    rename_i c cs hag
    simp at hl; subst hl
    cases hp with
    | @ro _ a vals hs hcell hrd =>
      have h0 := hcell 0 c rfl
      refine ⟨vals 0, ?_, .t (hrd 0 c rfl)⟩
      simp only [Instr.loadAt, Instr.sureAddr, Sem.run_bind, Sem.run_pure, Result.andThen_ok]
      exact run_loadVar_cell a _ hag (by have := h0.2.1; simpa [Addr.add] using this)
  · -- ad, agg
    rename_i id n off hag
    cases ho : hget h id with
    | none => simp [ho] at hl
    | some o =>
      simp only [ho] at hl
      split at hl <;> simp at hl
      subst hl
      rename_i hcond
      obtain ⟨hlen, hsz⟩ := hcond
      cases hp with
      | @ad _ _ _ _ o' ho' hz hn h1 hv =>
        rw [ho] at ho'; cases ho'
        have := hv hlen; subst this
        obtain ⟨cur, cap, hblk, hesz, hagf, hcl, hcs, hle, hmax, hcell⟩ := hr.obj id o ho hz
        have hcur : o.cs.length ≤ cur.size := by rw [hcl, hcs]; exact Nat.mul_le_mul_right _ hle
        have hoff : P.cellsOf t = 0 ∨ off + P.cellsOf t ≤ o.cs.length := by
          rw [List.length_take, List.length_drop] at hsz; omega
        refine ⟨.agg ((List.range (P.cellsOf t)).map fun k => cur.getD (off + k) Go.undef).toArray, ?_, ?_⟩
        · simp only [Instr.loadAt, Instr.sureAddr, Sem.run_bind, Sem.run_pure, Result.andThen_ok]
          refine run_loadVar_agg _ _ hag (by simp) fun j v hj => ?_
          rw [List.getElem?_map] at hj
          by_cases hjl : j < P.cellsOf t
          · rw [List.getElem?_range hjl] at hj
            simp only [Option.map_some, Option.some.injEq] at hj; subst hj
            exact row_cell hblk (by omega)
          · simp [List.getElem?_eq_none (by simp; omega : (List.range (P.cellsOf t)).length ≤ j)] at hj
        · refine VR.mkAgg (by simp only [List.size_toArray, List.length_map, List.length_range]; exact hsz) fun i x hx => ?_
          rw [List.getElem?_take] at hx
          split at hx
          · rename_i hi
            rw [List.getElem?_drop] at hx
            rw [list_getD_toArray]
            simp only [List.getD, List.getElem?_map, List.getElem?_range hi, Option.map_some, Option.getD_some]
            exact (hcell _ x hx).1
          · cases hx
  · -- ad, one cell
    rename_i id n off hag
    cases ho : hget h id with
    | none => simp [ho] at hl
    | some o =>
      simp only [ho] at hl
      split at hl <;> try (simp at hl; done)
      rename_i hlen
      cases hp with
      | @ad _ _ _ _ o' ho' hz hn h1 hv =>
        rw [ho] at ho'; cases ho'
        have := hv hlen; subst this
        obtain ⟨cur, cap, hblk, hesz, hagf, hcl, hcs, hle, hmax, hcell⟩ := hr.obj id o ho hz
        have hcur : o.cs.length ≤ cur.size := by rw [hcl, hcs]; exact Nat.mul_le_mul_right _ hle
        have hoff : off < o.cs.length := (List.getElem?_eq_some_iff.1 hl).1
        refine ⟨cur.getD off Go.undef, ?_, (hcell off v hl).1⟩
        simp only [Instr.loadAt, Instr.sureAddr, Sem.run_bind, Sem.run_pure, Result.andThen_ok]
        have := row_cell (w := w) (off := off) (k := 0) hblk (by omega)
        rw [add_lit] at this
        exact run_loadVar_cell _ _ hag (by simpa using this)
  · cases hl

theorem valid_spec {h : Hp} {id : Id} {n : Nat} (hv : valid h id n = true) : ∃ o, hget h id = some o ∧ o.len = n := by
  unfold valid at hv
  cases ho : hget h id with
  | none => simp [ho] at hv
  | some o => simp [ho] at hv; exact ⟨o, rfl, hv⟩
theorem VR.ad_val {id : Id} {n off : Nat} {u : Value} (hp : VR h μ w (LL A h μ) (.ad id n off) u) (hv : valid h id n = true) : u = .pointer (some ⟨μ id, off, none⟩) := by
  obtain ⟨o, ho, hl⟩ := valid_spec hv
  cases hp with
  | ad ho' hz hn h1 hv => rw [ho] at ho'; cases ho'; exact hv hl
theorem VR.rf_val {id : Id} {n : Nat} {u : Value} (hp : VR h μ w (LL A h μ) (.rf id n) u) (hv : valid h id n = true) : ∃ cap, u = .slice (some ⟨μ id, 0, none⟩) n cap := by
  obtain ⟨o, ho, hl⟩ := valid_spec hv
  cases hp with
  | rf ho' hz hn h1 hv =>
    rw [ho] at ho'; cases ho'
    obtain ⟨cap, _, _, _, h, _⟩ := hv hl
    exact ⟨cap, h⟩

theorem fieldAddr_good {s : TypeId} {i : Nat} {p v : PV} {u : Value} (hp : VR h μ w (LL A h μ) p u) (hl : fieldAddrPV P s i p h = some v) :
    ∃ v', (Instr.fieldAt s u i).run P w = .ok v' w ∧ VR h μ w (LL A h μ) v v' := by
  unfold fieldAddrPV at hl
  split at hl <;> try (simp at hl; done)
  rename_i off ft hf
  obtain ⟨fs, f, hu, hfs, rfl, rfl, hi, hz⟩ := field_under hf
  have hrun : ∀ a : Addr, (Instr.fieldAt s (.pointer (some a)) i).run P w = .ok (.pointer (some (a.add f.offset))) w := fun a => by
    simp [Instr.fieldAt, run_underlying hu, hfs, Instr.sureAddr, fieldPlace, run_sizeOf_info w hi, hz]
  split at hl <;> simp at hl
  · subst hl
    cases hp with
    | @ro cs a vals hs hcell hrd =>
      refine ⟨_, hrun a, ?_⟩
      refine .ro (vals := fun k => vals (f.offset + k)) (add_spot a hs _) (fun k x hk => ?_) (fun k x hk => ?_)
      · rw [List.getElem?_drop] at hk
        rw [add_add a hs, block_add]
        exact hcell _ x hk
      · rw [List.getElem?_drop] at hk
        exact hrd _ x hk
  · obtain ⟨hv, rfl⟩ := hl
    rename_i id n o
    have := hp.ad_val hv; subst this
    refine ⟨_, hrun _, ?_⟩
    cases hp with
    | ad ho hz hn h1 hv' =>
      rw [add_lit]
      exact .ad ho hz hn rfl fun _ => rfl

theorem agg_of {w : World} {L : Nat → Prop} {l : List Tr} {v : Value} (h : Reads w L (.agg l) v) : ∃ vs, v = .agg vs ∧ l.length = vs.size ∧ ∀ (i : Nat) x, l[i]? = some x → Reads w L x (vs.getD i Go.undef) := by
  cases h with
  | agg hl hh => exact ⟨_, rfl, hl, hh⟩

theorem getD_extract (vs : Array Value) (a b i : Nat) (hi : i < min b vs.size - a) : (vs.extract a b).getD i Go.undef = vs.getD (a + i) Go.undef := by
  have h2 : a + i < vs.size := by omega
  simp [Array.getD, h2, hi]

theorem run_part {ft : TypeId} (vs : Array Value) (off : Nat) {b : Bool} (hag : aggB P ft = some b) (hoff : b = false → off < vs.size) :
    (part ft vs off).run P w = .ok (if b then .agg (vs.extract off (off + P.cellsOf ft)) else vs.getD off Go.undef) w := by
  unfold part
  rw [Sem.run_bind, run_isAgg w hag]
  cases b with
  | true => simp [run_sizeOf_info w (agg_info hag)]
  | false =>
    have := hoff rfl
    simp [this, Array.getD]

theorem field_good {s : TypeId} {i : Nat} {p v : PV} {u : Value} (hp : VR h μ w (LL A h μ) p u) (hl : fieldPV P s i p = some v) :
    ∃ v', (Instr.field s u i).run P w = .ok v' w ∧ VR h μ w (LL A h μ) v v' := by
  unfold fieldPV at hl
  split at hl <;> try (simp at hl; done)
  rename_i off ft hf
  obtain ⟨fs, f, hu, hfs, rfl, rfl, hi, hz⟩ := field_under hf
  have hrun : ∀ vs, (Instr.field s (.agg vs) i).run P w = (part f.type vs f.offset).run P w := fun vs => by
    simp [Instr.field, run_underlying hu, hfs, asAgg]
  split at hl
  · rename_i l hag
    simp at hl; subst hl
    obtain ⟨vs, rfl, hsz, hh⟩ := agg_of hp.tree
    refine ⟨_, (hrun vs).trans (run_part vs _ hag (by simp)), ?_⟩
    simp only [if_true]
    refine .t (.agg (by simp [List.length_take, List.length_drop, hsz]; omega) fun k x hk => ?_)
    rw [List.getElem?_take] at hk
    split at hk
    · rw [List.getElem?_drop] at hk
      have := (List.getElem?_eq_some_iff.1 hk).1
      rw [getD_extract _ _ _ _ (by omega)]
      exact hh _ x hk
    · cases hk
  · rename_i l hag
    split at hl <;> simp at hl
    rename_i x hx
    subst hl
    obtain ⟨vs, rfl, hsz, hh⟩ := agg_of hp.tree
    have := (List.getElem?_eq_some_iff.1 hx).1
    refine ⟨_, (hrun vs).trans (run_part vs _ hag (fun _ => by omega)), ?_⟩
    simp only [Bool.false_eq_true, if_false]
    exact .t (hh _ x hx)
  · rename_i l hag
    simp at hl; subst hl
    cases hp with
    | @agg _ vs hsz hh =>
      refine ⟨_, (hrun vs).trans (run_part vs _ hag (by simp)), ?_⟩
      simp only [if_true]
      refine VR.mkAgg (by simp [List.length_take, List.length_drop, hsz]; omega) fun k x hk => ?_
      rw [List.getElem?_take] at hk
      split at hk
      · rw [List.getElem?_drop] at hk
        have := (List.getElem?_eq_some_iff.1 hk).1
        rw [getD_extract _ _ _ _ (by omega)]
        exact hh _ x hk
      · cases hk
  · rename_i l hag
    cases hp with
    | @agg _ vs hsz hh =>
      have := (List.getElem?_eq_some_iff.1 hl).1
      refine ⟨_, (hrun vs).trans (run_part vs _ hag (fun _ => by omega)), ?_⟩
      simp only [Bool.false_eq_true, if_false]
      exact hh _ v hl
  · cases hl

theorem flat_get (l : List Tr) (esz : Nat) (he : ∀ x ∈ l, x.cells.length = esz) : ∀ (i : Nat) y, l[i]? = some y → ∀ k x, y.cells[k]? = some x → (flat l)[i * esz + k]? = some x := by
  induction l with
  | nil => intro i y hi; simp at hi
  | cons z r ih =>
    intro i y hi k x hk
    have hz : z.cells.length = esz := he z (by simp)
    simp only [flat, List.flatMap_cons]
    cases i with
    | zero =>
      simp at hi; subst hi
      rw [Nat.zero_mul, Nat.zero_add, List.getElem?_append_left (List.getElem?_eq_some_iff.1 hk).1]
      exact hk
    | succ i =>
      have := ih (fun x hx => he x (by simp [hx])) i y (by simpa using hi) k x hk
      rw [List.getElem?_append_right (by rw [hz, Nat.succ_mul]; omega)]
      rw [hz, Nat.succ_mul, show i * esz + esz + k - esz = i * esz + k by omega]
      exact this

theorem sl_of {w : World} {L : Nat → Prop} {nn : Bool} {l : List Tr} {v : Value} (h : Reads w L (.sl nn l) v) :
    (nn = false ∧ l = [] ∧ v = .slice none 0 0) ∨ (nn = true ∧ ∃ (a : Addr) (cap esz : Nat) (vals : Nat → Value), v = .slice (some a) l.length cap ∧ (flat l ≠ [] → a.spot = none) ∧ l.length ≤ cap ∧ cap ≤ maxLen ∧ (∀ x ∈ l, x.cells.length = esz) ∧
      (∀ (k : Nat) x, (flat l)[k]? = some x → ¬ L a.block ∧ w.cell? (a.add k) = some (vals k) ∧ (vals k).oneCell' = true) ∧ ∀ (k : Nat) x, (flat l)[k]? = some x → Reads w L x (vals k)) := by
  cases h with
  | nil => exact .inl ⟨rfl, rfl, rfl⟩
  | @sl _ a cap esz vals hs hc hm he hcell hh => exact .inr ⟨rfl, a, cap, esz, vals, rfl, hs, hc, hm, he, hcell, hh⟩

theorem int_of {w : World} {L : Nat → Prop} {k : IntKind} {n : Int} {v : Value} (h : Reads w L (.int k n) v) : v = .int k n := by cases h; rfl
theorem bool_of {w : World} {L : Nat → Prop} {b : Bool} {v : Value} (h : Reads w L (.bool b) v) : v = .bool b := by cases h; rfl
theorem str_of {w : World} {L : Nat → Prop} {b : ByteArray} {v : Value} (h : Reads w L (.str b) v) : v = .string b := by cases h; rfl

theorem indexAddr_good {t : TypeId} {p q v : PV} {u i : Value} (hp : VR h μ w (LL A h μ) p u) (hq : VR h μ w (LL A h μ) q i) (hl : indexAddrPV P t p q h = some v) :
    ∃ v', (Instr.indexAt t u i).run P w = .ok v' w ∧ VR h μ w (LL A h μ) v v' := by
  unfold indexAddrPV at hl
  split at hl <;> try (simp at hl; done)
  rename_i e he
  obtain ⟨hu, hi⟩ := elem_under he
  have hrun : ∀ (a : Addr) (len cap : Nat) (k : IntKind) (n : Int), 0 ≤ n → n.toNat < len → (Instr.indexAt t (.slice (some a) len cap) (.int k n)).run P w = .ok (.pointer (some (a.add (n.toNat * P.cellsOf e)))) w := by
    intro a len cap k n h0 h1
    have h2 : n < (len : Int) := by omega
    simp [Instr.indexAt, asIntOf, run_underlying hu, h0, h2, run_sizeOf_info w hi]
  split at hl
  · rename_i nn l k n
    have := int_of hq.tree; subst this
    split at hl <;> try (simp at hl; done)
    rename_i h0
    split at hl <;> try (simp at hl; done)
    rename_i y hy
    split at hl <;> simp at hl
    rename_i hsz0
    obtain ⟨hsz, hposc⟩ := hsz0
    subst hl
    have hlt := (List.getElem?_eq_some_iff.1 hy).1
    rcases sl_of hp.tree with ⟨_, rfl, _⟩ | ⟨_, a, cap, esz, vals, rfl, hs0, hc, hm, hesz, hcell, hh⟩
    · simp at hy
    have hs : a.spot = none := hs0 (by
      intro e0
      have hyc : y.cells ≠ [] := by intro e1; rw [e1] at hsz; simp at hsz; omega
      obtain ⟨z, hz⟩ := List.exists_mem_of_ne_nil _ hyc
      have : z ∈ flat l := List.mem_flatMap.2 ⟨y, List.mem_of_getElem? hy, hz⟩
      rw [e0] at this; cases this)
    · refine ⟨_, hrun a _ _ _ _ h0 hlt, ?_⟩
      have hye : esz = P.cellsOf e := by rw [← hsz]; exact (hesz y (List.mem_of_getElem? hy)).symm
      refine .ro (vals := fun j => vals (n.toNat * P.cellsOf e + j)) (add_spot a hs _) (fun j x hj => ?_) (fun j x hj => ?_)
      · have := flat_get l esz hesz _ y hy j x hj
        rw [hye] at this
        rw [add_add a hs, block_add]
        exact hcell _ x this
      · have := flat_get l esz hesz _ y hy j x hj
        rw [hye] at this
        exact hh _ x this
  · rename_i id m k n
    have := int_of hq.tree; subst this
    cases ho : hget h id with
    | none => simp [ho] at hl
    | some o =>
      simp only [ho] at hl
      split at hl <;> simp at hl
      subst hl
      rename_i hc
      obtain ⟨hlen, hesz, h0, hlt⟩ := hc
      cases hp with
      | rf ho' hz hn h1 hv =>
        rw [ho] at ho'; cases ho'
        obtain ⟨cap, _, _, _, rfl, _⟩ := hv hlen
        refine ⟨_, hrun _ _ _ _ _ h0 hlt, ?_⟩
        rw [add_lit, ← hesz, Nat.zero_add]
        exact .ad ho hz (by omega) rfl fun _ => rfl
  · cases hl
end
end Go.Vm
