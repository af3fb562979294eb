/- The abstract machine: a function's contract out of its walk. -/
import Derived.Test.YtajgclnahfmfmaaVmC
namespace Go.Vm
open Go

section
variable {P : Program} {mu : Nat → Bool} {A : Nat → Prop} {h : Hp} {μ : Id → Nat} {w : World}

theorem load_ptr {t : TypeId} {p v : PV} {u : Value} (hp : VR h μ w (LL A h μ) p u) (hl : loadPV P t p h = some v) : ∃ a, u = .pointer (some a) := by
  unfold loadPV at hl
  split at hl
  · cases hp; exact ⟨_, rfl⟩
  · cases hp; exact ⟨_, rfl⟩
  · split at hl <;> try (simp at hl; done)
    rename_i ho
    split at hl <;> try (simp at hl; done)
    rename_i hn
    exact ⟨_, hp.ad_val (by simp [valid, ho, hn.1])⟩
  · split at hl <;> try (simp at hl; done)
    rename_i ho
    split at hl <;> try (simp at hl; done)
    rename_i hn
    exact ⟨_, hp.ad_val (by simp [valid, ho, hn])⟩
  · simp at hl

/-- what a result reads as -/
def resOne (P : Program) (s : St) (r : ResultVar) : Option Tr := match resPV P s r with | some p => toTr s.hp dep p | none => none

def rdVar (tmps : Array Value) : ResultVar → Sem Value
  | .tmp t => pure (tmps.getD t undef)
  | .cell a t => do loadVar t (← asAddr (tmps.getD a undef))

theorem resVals {h0 : Hp} {μ0 : Id → Nat} {w0 : World} {N : Nat} {s : St} {μ : Id → Nat} {a : Act} {w : World} (hr : Rel A h0 μ0 w0 N s μ a w) : ∀ (l : List ResultVar) (ts : List Tr), mapO (resOne P s) l = some ts →
    ∃ vs : List Value, (l.mapM (rdVar a.tmps)).run P w = .ok vs w ∧ vs.length = ts.length ∧ ∀ (i : Nat) x, ts[i]? = some x → Reads w A x (vs.getD i Go.undef)
  | [], ts, h => by
    simp [mapO] at h; subst h
    exact ⟨[], by simp, rfl, fun i x hx => by simp at hx⟩
  | r :: l, ts, h => by
    simp only [mapO] at h
    split at h <;> simp at h
    subst h
    rename_i x xs hx hxs
    obtain ⟨vs, h1, h2, h3⟩ := resVals hr l xs hxs
    have one : ∃ v, (rdVar a.tmps r).run P w = .ok v w ∧ Reads w A x v := by
      unfold resOne at hx
      split at hx <;> try (simp at hx; done)
      rename_i p hp
      have fin : ∀ v, VR s.hp μ w (LL A s.hp μ) p v → Reads w A x v := fun v hv =>
        toTr_reads hr.hp dep p v x hv hx (fun b hb => .inl hb) (fun b hb id hid e => by
          obtain ⟨o, ho⟩ := Option.isSome_iff_exists.1 (reach_ex hr.hp dep p v hv id hid)
          exact hr.hp.dis id o ho (e ▸ hb))
      cases r with
      | tmp t =>
        have hp : some (s.sl t) = some p := hp
        simp only [Option.some.injEq] at hp
        subst hp
        exact ⟨a.tmps.getD t Go.undef, by simp [rdVar], fin _ (hr.sl t)⟩
      | cell c t =>
        simp only [resPV] at hp
        obtain ⟨b, hb⟩ := load_ptr (hr.sl c) hp
        obtain ⟨v', h4, h5⟩ := load_good hr.hp (hr.sl c) hp
        refine ⟨v', ?_, fin _ h5⟩
        rw [hb] at h4
        simp only [Instr.loadAt, Instr.sureAddr, Sem.run_bind, Sem.run_pure, Result.andThen_ok] at h4
        simp only [rdVar, hb, asAddr, Sem.run_bind, Sem.run_pure, Result.andThen_ok, h4]
    obtain ⟨v, h4, h5⟩ := one
    refine ⟨v :: vs, by simp [List.mapM_cons, h4, h1], by simp [h2], fun i y hy => ?_⟩
    cases i with
    | zero => simp at hy; subst hy; simpa using h5
    | succ i => simpa using h3 i y (by simpa using hy)

theorem mapM_rdVar (tmps : Array Value) (f : ResultVar → Sem Value) (h1 : ∀ u, f (.tmp u) = pure (tmps.getD u undef)) (h2 : ∀ c t, f (.cell c t) = (do loadVar t (← asAddr (tmps.getD c undef)))) (l : List ResultVar) :
    l.mapM f = l.mapM (rdVar tmps) := by
  congr 1
  funext x
  cases x with
  | tmp u => rw [h1]; rfl
  | cell c t => rw [h2]; rfl

theorem results_good {h0 : Hp} {μ0 : Id → Nat} {w0 : World} {N : Nat} {s : St} {μ : Id → Nat} {a : Act} {w : World} (hr : Rel A h0 μ0 w0 N s μ a w) {fn : Func} {r : Tr} (hres : resTr P s fn.results.toList = some r) :
    ∃ v, (results fn a.tmps).run P w = .ok v w ∧ Reads w A r v := by
  have key : ∀ ts, mapO (resOne P s) fn.results.toList = some ts → ∃ vs : List Value, (results fn a.tmps).run P w = .ok (if h : vs.length = 1 then vs[0] else .tuple vs.toArray) w ∧ vs.length = ts.length ∧ ∀ (i : Nat) x, ts[i]? = some x → Reads w A x (vs.getD i Go.undef) := by
    intro ts hts
    obtain ⟨vs, h1, h2, h3⟩ := resVals hr fn.results.toList ts hts
    refine ⟨vs, ?_, h2, h3⟩
    unfold results
    rw [show fn.results = fn.results.toList.toArray by simp, List.mapM_toArray]
    simp only [Sem.run_bind, Sem.run_map]
    rw [mapM_rdVar a.tmps _ (fun _ => rfl) (fun _ _ => rfl)]
    rw [h1]
    simp
  unfold resTr at hres
  change (match mapO (resOne P s) fn.results.toList with | some [x] => some x | some ts => some (.tup ts) | none => none) = some r at hres
  split at hres
  · rename_i x hx
    simp at hres; subst hres
    obtain ⟨vs, h1, h2, h3⟩ := key _ hx
    have hl : vs.length = 1 := h2
    rw [dif_pos hl] at h1
    refine ⟨_, h1, ?_⟩
    have := h3 0 x rfl
    simpa [List.getD, hl] using this
  · rename_i ts hx hne
    simp at hres; subst hres
    obtain ⟨vs, h1, h2, h3⟩ := key _ hne
    have hl : vs.length ≠ 1 := by
      rw [h2]
      intro e
      obtain ⟨x, rfl⟩ := List.length_eq_one_iff.1 e
      exact hx x rfl
    rw [dif_neg hl] at h1
    exact ⟨_, h1, .tup (by simpa using h2.symm) (fun i x hx => by rw [list_getD_toArray]; exact h3 i x hx)⟩
  · simp at hres

theorem hget_none (id : Id) : hget (fun _ => ([] : List Obj)) id = none := by simp [hget]

theorem Reads.pv {h : Hp} {μ : Id → Nat} {w : World} {L : Nat → Prop} {x : Tr} {v : Value} (hr : Reads w L x v) : VR h μ w L x.pv v := by
  cases hr with
  | ptr hs hcell hr => exact .ro hs hcell hr
  | int k n => exact .t (.int k n)
  | bool b => exact .t (.bool b)
  | str b => exact .t (.str b)
  | agg hl hr => exact .t (.agg hl hr)
  | tup hl hr => exact .t (.tup hl hr)
  | nil => exact .t .nil
  | sl h1 h2 h3 h4 h5 h6 => exact .t (.sl h1 h2 h3 h4 h5 h6)
  | fn hl hr => exact .t (.fn hl hr)
  | nilp => exact .t .nilp

/-- the frame at a call -/
theorem init_rel {args : List Tr} {vs : Array Value} {N : Nat} (hA : ∀ b, A b → b < w.heap.size) (hr : ReadsL w A args vs) (hn : args.length ≤ N) :
    Rel A (fun _ => []) (fun _ => 0) w N (initSt args) (fun _ => 0) { tmps := vs ++ Array.replicate (N - vs.size) undef, defers := [] } w where
  sz := by simp; have := hr.1; omega
  df := rfl
  sl t := by
    simp only [initSt, initSl]
    split
    · rename_i x hx
      have hlt : t < vs.size := by rw [← hr.1]; exact (List.getElem?_eq_some_iff.1 hx).1
      have := hr.2 t x hx
      have e : (vs ++ Array.replicate (N - vs.size) undef).getD t Go.undef = vs.getD t Go.undef := by
        have hl2 : t < vs.size + (N - vs.size) := by omega
        simp [Array.getD, hlt, hl2]
      rw [e]
      exact Reads.pv (this.mono (L' := LL A (fun _ => []) fun _ => 0) fun b hb => by
        rcases hb with hb | ⟨id, o, ho, _⟩
        · exact hb
        · rw [hget_none] at ho; cases ho)
    · exact .undef
  hp := ⟨fun id o ho => by simp [initSt, hget_none] at ho, fun id o ho => by simp [initSt, hget_none] at ho, fun id id' o o' ho => by simp [initSt, hget_none] at ho, fun id o ho => by simp [initSt, hget_none] at ho, hA⟩
  ext := Ext.refl _ _ _

theorem Ext.below {μ μ' : Id → Nat} {h' : Hp} {w w' : World} (e : Ext (fun _ => []) μ w h' μ' w') : RowKit.Below w.heap.size w w' :=
  ⟨e.os, e.tape, e.output, e.size, fun b hb => e.old b hb fun ⟨id, o, ho, _⟩ => by rw [hget_none] at ho; cases ho⟩

/-- A FUNCTION'S CONTRACT OUT OF ITS WALK. -/
theorem dcall_of_wp {g : FuncId} {fn : Func} {c : Code} {args : List Tr} {r : Tr} (hm : P.follows .mixedOrders = true) (hf : P.funcs[g]? = some fn) (hb : fn.body = some c) (hname : (fn.name == "runtime.NumGoroutine") = false)
    (mu : Nat → Bool) (hok : codeOK mu fn.ntmps c = true) (hn : args.length ≤ fn.ntmps) (hw : wp P mu c (initSt args) (endK P fn r)) : DCall P g args r := by
  refine ⟨⟨fn, hf, hname, by simp [hb]⟩, fun w A vs hA hr => calls_of_wp hf hb ?_⟩
  refine wp_mono (wp_good hm c (initSt args) (endK P fn r) _ _ w hok (init_rel hA hr hn) hw) ?_
  rintro e a' w' ⟨e', s', μ', rfl, hk, hr'⟩
  have fin : ∀ (s' : St), resTr P s' fn.results.toList = some r → Rel A (fun _ => []) (fun _ => 0) w fn.ntmps s' μ' a' w' → a'.defers = [] ∧ ∃ v, (results fn a'.tmps).run P w' = .ok v w' ∧ ∃ v', Ending.returned v = .returned v' ∧ Reads w' A r v' ∧ RowKit.Below w.heap.size w w' := by
    intro s' hk hr'
    obtain ⟨v, h1, h2⟩ := results_good hr' hk
    exact ⟨hr'.df, v, h1, v, rfl, h2, hr'.ext.below⟩
  cases e' with
  | normal => exact fin s' hk hr'
  | ret => exact fin s' hk hr'
  | exit n => exact hk.elim

/-! ## a call that shares the heap -/
/-- an argument, in its slot -/
def PV.un : PV → PV
  | .t x => x.pv
  | v => v
theorem VR.un {h : Hp} {μ : Id → Nat} {w : World} {L : Nat → Prop} {p : PV} {v : Value} (hv : VR h μ w L p v) : VR h μ w L p.un v := by
  cases p with
  | t x => exact Reads.pv hv.tree
  | _ => exact hv
def initSlI (args : List PV) : Sl := fun t => match args[t]? with | some x => x.un | none => .undef
def initStI (args : List PV) (h : Hp) : St := ⟨initSlI args, h⟩

theorem init_relI {args : List PV} {h : Hp} {μ : Id → Nat} {vs : Array Value} {N : Nat} (hr : HR A h μ w) (hl : args.length = vs.size) (hv : ∀ i p, args[i]? = some p → VR h μ w (LL A h μ) p (vs.getD i Go.undef)) (hn : args.length ≤ N) :
    Rel A h μ w N (initStI args h) μ { tmps := vs ++ Array.replicate (N - vs.size) undef, defers := [] } w where
  sz := by simp; omega
  df := rfl
  sl t := by
    simp only [initStI, initSlI]
    split
    · rename_i x hx
      have hlt : t < vs.size := by rw [← hl]; exact (List.getElem?_eq_some_iff.1 hx).1
      have := hv t x hx
      have e : (vs ++ Array.replicate (N - vs.size) undef).getD t Go.undef = vs.getD t Go.undef := by
        have hl2 : t < vs.size + (N - vs.size) := by omega
        simp [Array.getD, hlt, hl2]
      rw [e]
      exact this.un
    · exact .undef
  hp := hr
  ext := Ext.refl _ _ _

theorem resValsI {h0 : Hp} {μ0 : Id → Nat} {w0 : World} {N : Nat} {s : St} {μ : Id → Nat} {a : Act} {w : World} (hr : Rel A h0 μ0 w0 N s μ a w) : ∀ (l : List ResultVar) (ps : List PV), mapO (resPV P s) l = some ps →
    ∃ vs : List Value, (l.mapM (rdVar a.tmps)).run P w = .ok vs w ∧ vs.length = ps.length ∧ ∀ (i : Nat) x, ps[i]? = some x → VR s.hp μ w (LL A s.hp μ) x (vs.getD i Go.undef)
  | [], ps, h => by
    simp [mapO] at h; subst h
    exact ⟨[], by simp, rfl, fun i x hx => by simp at hx⟩
  | r :: l, ps, h => by
    simp only [mapO] at h
    split at h <;> simp at h
    subst h
    rename_i p xs hp hxs
    obtain ⟨vs, h1, h2, h3⟩ := resValsI hr l xs hxs
    have one : ∃ v, (rdVar a.tmps r).run P w = .ok v w ∧ VR s.hp μ w (LL A s.hp μ) p v := by
      cases r with
      | tmp t =>
        have hp : some (s.sl t) = some p := hp
        simp only [Option.some.injEq] at hp
        subst hp
        exact ⟨a.tmps.getD t Go.undef, by simp [rdVar], hr.sl t⟩
      | cell c t =>
        simp only [resPV] at hp
        obtain ⟨b, hb⟩ := load_ptr (hr.sl c) hp
        obtain ⟨v', h4, h5⟩ := load_good hr.hp (hr.sl c) hp
        refine ⟨v', ?_, h5⟩
        rw [hb] at h4
        simp only [Instr.loadAt, Instr.sureAddr, Sem.run_bind, Sem.run_pure, Result.andThen_ok] at h4
        simp only [rdVar, hb, asAddr, Sem.run_bind, Sem.run_pure, Result.andThen_ok, h4]
    obtain ⟨v, h4, h5⟩ := one
    refine ⟨v :: vs, by simp [List.mapM_cons, h4, h1], by simp [h2], fun i y hy => ?_⟩
    cases i with
    | zero => simp at hy; subst hy; simpa using h5
    | succ i => simpa using h3 i y (by simpa using hy)

/-- the result, as it lies -/
def resI (P : Program) (s : St) (l : List ResultVar) : Option PV :=
  match mapO (resPV P s) l with
  | some [x] => some x
  | some ps => some (mkTup ps)
  | none => none
theorem VR.mkTup {h : Hp} {μ : Id → Nat} {w : World} {L : Nat → Prop} {ps : List PV} {vs : List Value} (hl : ps.length = vs.length) (hv : ∀ (i : Nat) x, ps[i]? = some x → VR h μ w L x (vs.getD i Go.undef)) : VR h μ w L (mkTup ps) (.tuple vs.toArray) := by
  unfold Vm.mkTup
  split
  · rename_i ts ht
    have := trees_get ht; subst this
    refine .t (.tup (by simpa using hl) fun i x hx => ?_)
    rw [list_getD_toArray]
    exact (hv i (.t x) (by rw [List.getElem?_map, hx]; rfl)).tree
  · exact .tup (by simpa using hl) fun i x hx => by rw [list_getD_toArray]; exact hv i x hx

theorem results_goodI {h0 : Hp} {μ0 : Id → Nat} {w0 : World} {N : Nat} {s : St} {μ : Id → Nat} {a : Act} {w : World} (hr : Rel A h0 μ0 w0 N s μ a w) {fn : Func} {r : PV} (hres : resI P s fn.results.toList = some r) :
    ∃ v, (results fn a.tmps).run P w = .ok v w ∧ VR s.hp μ w (LL A s.hp μ) r v := by
  have key : ∀ ps, mapO (resPV P s) fn.results.toList = some ps → ∃ vs : List Value, (results fn a.tmps).run P w = .ok (if h : vs.length = 1 then vs[0] else .tuple vs.toArray) w ∧ vs.length = ps.length ∧ ∀ (i : Nat) x, ps[i]? = some x → VR s.hp μ w (LL A s.hp μ) x (vs.getD i Go.undef) := by
    intro ps hps
    obtain ⟨vs, h1, h2, h3⟩ := resValsI hr fn.results.toList ps hps
    refine ⟨vs, ?_, h2, h3⟩
    unfold results
    rw [show fn.results = fn.results.toList.toArray by simp, List.mapM_toArray]
    simp only [Sem.run_bind, Sem.run_map]
    rw [mapM_rdVar a.tmps _ (fun _ => rfl) (fun _ _ => rfl)]
    rw [h1]
    simp
  unfold resI at hres
  split at hres
  · rename_i x hx
    simp at hres; subst hres
    obtain ⟨vs, h1, h2, h3⟩ := key _ hx
    have hl : vs.length = 1 := h2
    rw [dif_pos hl] at h1
    refine ⟨_, h1, ?_⟩
    have := h3 0 x rfl
    simpa [List.getD, hl] using this
  · rename_i ps hx hne
    simp at hres; subst hres
    obtain ⟨vs, h1, h2, h3⟩ := key _ hne
    have hl : vs.length ≠ 1 := by
      rw [h2]
      intro e
      obtain ⟨x, rfl⟩ := List.length_eq_one_iff.1 e
      exact hx x rfl
    rw [dif_neg hl] at h1
    exact ⟨_, h1, .mkTup h2.symm h3⟩
  · simp at hres

/-- the function's end, where the heap is shared -/
def endI (P : Program) (fn : Func) (Q : PV → Hp → Prop) : Ex → St → Prop := fun e s => match e with
  | .exit _ => False
  | _ => ∃ r, resI P s fn.results.toList = some r ∧ Q r s.hp

/-- THE CONTRACT OF A CALL THAT SHARES THE HEAP, OUT OF ITS WALK. -/
theorem icall_of_wp {g : FuncId} {fn : Func} {c : Code} {args : List PV} {h : Hp} {Q : PV → Hp → Prop} (hm : P.follows .mixedOrders = true) (hf : P.funcs[g]? = some fn) (hb : fn.body = some c) (hname : (fn.name == "runtime.NumGoroutine") = false)
    (mu : Nat → Bool) (hok : codeOK mu fn.ntmps c = true) (hn : args.length ≤ fn.ntmps) (hw : wp P mu c (initStI args h) (endI P fn Q)) : ICall P g args h Q := by
  refine ⟨⟨fn, hf, hname, by simp [hb]⟩, fun w A μ vs hr hl hv => calls_of_wp hf hb ?_⟩
  refine wp_mono (wp_good hm c (initStI args h) (endI P fn Q) _ _ w hok (init_relI hr hl hv hn) hw) ?_
  rintro e a' w' ⟨e', s', μ', rfl, hk, hr'⟩
  have fin : ∀ (s' : St), (∃ r, resI P s' fn.results.toList = some r ∧ Q r s'.hp) → Rel A h μ w fn.ntmps s' μ' a' w' → a'.defers = [] ∧ ∃ v, (results fn a'.tmps).run P w' = .ok v w' ∧
      ∃ v' r h' μ', Ending.returned v = .returned v' ∧ Q r h' ∧ HR A h' μ' w' ∧ Ext h μ w h' μ' w' ∧ VR h' μ' w' (LL A h' μ') r v' := by
    rintro s' ⟨r, hk, hq⟩ hr'
    obtain ⟨v, h1, h2⟩ := results_goodI hr' hk
    exact ⟨hr'.df, v, h1, v, r, s'.hp, μ', rfl, hq, hr'.hp, hr'.ext, h2⟩
  cases e' with
  | normal => exact fin s' hk hr'
  | ret => exact fin s' hk hr'
  | exit n => exact hk.elim
end
end Go.Vm
