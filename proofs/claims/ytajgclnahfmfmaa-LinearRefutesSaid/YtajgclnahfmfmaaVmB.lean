/- The abstract machine: a region that draws its order; the code; a function. -/
import Derived.Test.YtajgclnahfmfmaaVmA
namespace Go.Vm
open Go

/-! ## The order of a region that draws -/
/-- i stands before j in the text, and neither waits for the other: may j come first? -/
def hfree (a b : Nat) : Bool := a == 0 || b == 0 || (a == 1 && b == 1) || (a == 1 && b == 2) || (a == 2 && b == 2)

def hsite : Option Nat → Option Nat → Bool
  | some a, some b => a != b
  | _, _ => false
def indepB (mu : Nat → Bool) (ops : Array Oper) (x y : Oper) : Bool := x.apart ops y && (hfree (hkind mu x) (hkind mu y) || hsite (home mu x) (home mu y))

/-- the operations that must have come before: as bits -/
def preds (ops : List Oper) : List Nat :=
  ops.foldl (fun acc o => acc ++ [o.after.toList.foldl (fun s e => if Region.binds .any e then s ||| 2 ^ e.on ||| acc.getD e.on 0 else s) 0]) []

def drawOK (mu : Nat → Bool) (ops : Array Oper) : Bool :=
  let l := ops.toList
  let ps := preds l
  (ps.length == l.length) && l.zipIdx.all fun (oj, j) => oj.after.toList.all (fun e => !Region.binds .any e || decide (e.on < j)) &&
    (l.take j).zipIdx.all fun (oi, i) => (ps.getD j 0).testBit i || indepB mu ops oi oj

/-- what is asked of a function's code ahead -/
def codeOK (mu : Nat → Bool) (N : Nat) : Code → Bool
  | .region _ ops dr => ops.toList.all (okDst N) && (!dr || (drawOK mu ops && Region.noSelect ops))
  | .seq a b => codeOK mu N a && codeOK mu N b
  | .cond _ a b => codeOK mu N a && codeOK mu N b
  | .block _ b => codeOK mu N b
  | .loop b => codeOK mu N b
  | .skip | .ret | .exit _ => true
  | _ => false

set_option linter.unusedSimpArgs false
section
variable {P : Program} {mu : Nat → Bool}

/-! ### outcomes -/
def OutCall (P : Program) (mu : Nat → Bool) (o : Oper) (s : St) (g : FuncId) (args : List PV) (v : PV) (h' : Hp) : Prop := (∃ ts r, trees args = some ts ∧ DCall P g ts r ∧ v = .t r ∧ h' = s.hp) ∨ (fatB mu o.dst = true ∧ Exact P g args s.hp v h')
def OutPlain (P : Program) (mu : Nat → Bool) (o : Oper) (s : St) (v : PV) (h' : Hp) : Prop := bare mu o s.sl = true ∧ evalOp P mu o s = some (v, h')
def OutW (P : Program) (mu : Nat → Bool) (o : Oper) (s : St) (v : PV) (h' : Hp) : Prop :=
  match callPart s.sl o with
  | some (some (g, args)) => OutCall P mu o s g args v h'
  | some none => False
  | none => OutPlain P mu o s v h'
def Out (P : Program) (mu : Nat → Bool) (all : List Oper) (o : Oper) (s : St) (v : PV) (h' : Hp) : Prop :=
  (guardRun all s.sl o = some true ∧ OutW P mu o s v h') ∨ (guardRun all s.sl o = some false ∧ v = .skip ∧ h' = s.hp)
def Step (P : Program) (mu : Nat → Bool) (all : List Oper) (o : Oper) (s s' : St) : Prop := ∃ v h', Out P mu all o s v h' ∧ s' = St.put { s with hp := h' } o.dst v

theorem opW_out {o : Oper} {s : St} {K : St → Prop} : opW P mu true o s K ↔ ∃ v h', OutW P mu o s v h' ∧ K (St.put { s with hp := h' } o.dst v) := by
  have plain : plainW P mu true o s K ↔ ∃ v h', OutPlain P mu o s v h' ∧ K (St.put { s with hp := h' } o.dst v) := by
    unfold plainW OutPlain
    cases hnp : nextPart s.sl o with
    | some p =>
      have he : evalOp P mu o s = none := by
        unfold nextPart at hnp
        split at hnp
        · rename_i x hop; unfold evalOp; simp only [hop]
        · cases hnp
      simp only
      constructor
      · intro hh
        unfold nextW at hh
        split at hh
        · exact absurd hh.1 (by simp)
        · exact hh.elim
      · rintro ⟨v, h', ⟨_, hh⟩, _⟩
        rw [he] at hh; cases hh
    | none =>
    simp only
    constructor
    · rintro ⟨hb, he⟩
      split at he
      · rename_i v h' hh; exact ⟨v, h', ⟨hb trivial, hh⟩, he⟩
      · exact he.elim
    · rintro ⟨v, h', ⟨hb, hh⟩, hK⟩
      refine ⟨fun _ => hb, ?_⟩
      rw [hh]; exact hK
  unfold opW OutW
  cases callPart s.sl o with
  | none => exact plain
  | some q =>
    cases q with
    | none => simp
    | some q =>
      obtain ⟨g, args⟩ := q
      simp only
      unfold callW OutCall
      simp only [if_true]
      constructor
      · rintro (⟨ts, r, h1, h2, h3⟩ | ⟨h0, v, h', h1, h2⟩)
        · exact ⟨_, _, .inl ⟨ts, r, h1, h2, rfl, rfl⟩, h3⟩
        · exact ⟨_, _, .inr ⟨h0, h1⟩, h2⟩
      · rintro ⟨v, h', ⟨ts, r, h1, h2, rfl, rfl⟩ | ⟨h0, h1⟩, h3⟩
        · exact .inl ⟨ts, r, h1, h2, h3⟩
        · exact .inr ⟨h0, v, h', h1, h3⟩

theorem opG_step {all : List Oper} {o : Oper} {s : St} {K : St → Prop} : opG P mu true all o s K ↔ ∃ s', Step P mu all o s s' ∧ K s' := by
  have key : opG P mu true all o s K ↔ ∃ v h', Out P mu all o s v h' ∧ K (St.put { s with hp := h' } o.dst v) := by
    unfold opG Out
    cases guardRun all s.sl o with
    | none => simp
    | some r =>
      cases r with
      | true =>
        simp only [true_implies, Bool.true_eq_false, false_implies, and_true, Option.some.injEq, true_and, false_and, or_false]
        exact opW_out
      | false =>
        simp only [Bool.false_eq_true, false_implies, true_implies, true_and, Option.some.injEq, false_and, false_or]
        constructor
        · intro h; exact ⟨_, _, ⟨rfl, rfl⟩, h⟩
        · rintro ⟨_, _, ⟨rfl, rfl⟩, h⟩; exact h
  rw [key]
  constructor
  · rintro ⟨v, h', h1, h2⟩; exact ⟨_, ⟨v, h', h1, rfl⟩, h2⟩
  · rintro ⟨_, ⟨v, h', h1, rfl⟩, h2⟩; exact ⟨v, h', h1, h2⟩

def Steps (P : Program) (mu : Nat → Bool) (all : List Oper) : List Oper → St → St → Prop
  | [], s, s' => s' = s
  | o :: r, s, s' => ∃ s1, Step P mu all o s s1 ∧ Steps P mu all r s1 s'
theorem opsW_steps {all : List Oper} {K : St → Prop} : ∀ (l : List Oper) (s : St), opsW P mu true all l s K ↔ ∃ s', Steps P mu all l s s' ∧ K s'
  | [], s => by simp [opsW, Steps]
  | o :: r, s => by
    simp only [opsW, Steps, opG_step]
    constructor
    · rintro ⟨s1, h1, h2⟩
      obtain ⟨s', h3, h4⟩ := (opsW_steps r s1).1 h2
      exact ⟨s', ⟨s1, h1, h3⟩, h4⟩
    · rintro ⟨s', ⟨s1, h1, h3⟩, h4⟩
      exact ⟨s1, h1, (opsW_steps r s1).2 ⟨s', h3, h4⟩⟩

/-! ### what an outcome depends on -/
/-- the slots that an operation looks at read alike -/
def SameAt (ops : Array Oper) (o : Oper) (a b : Sl) : Prop := ∀ t ∈ o.looksAt ops, a t = b t

theorem SameAt.ev {ops : Array Oper} {o : Oper} {a b : Sl} (h : SameAt ops o a b) (x : Operand) (hx : x ∈ o.op.operands) : ev a x = ev b x := by
  cases x with
  | tmp t =>
    refine h t (List.mem_append_left _ (List.mem_filterMap.2 ⟨.tmp t, by simpa using hx, rfl⟩))
  | _ => rfl
theorem evs_congr {a b : Sl} : ∀ (l : List Operand), (∀ x ∈ l, ev a x = ev b x) → evs a l = evs b l
  | [], _ => rfl
  | x :: l, h => by simp only [evs]; rw [h x (by simp), evs_congr l (fun y hy => h y (by simp [hy]))]

theorem evalOp_congr {ops : Array Oper} {o : Oper} {a b : Sl} {h : Hp} (hs : SameAt ops o a b) : evalOp P mu o ⟨a, h⟩ = evalOp P mu o ⟨b, h⟩ := by
  have E := hs.ev
  have parts : ∀ ps : Array (Nat × Operand), (∀ x ∈ (ps.toList.map (·.2)).toArray, ev a x = ev b x) → (ps.toList.map fun p => (p.1, ev a p.2)) = (ps.toList.map fun p => (p.1, ev b p.2)) := by
    intro ps hp
    apply List.map_congr_left
    intro p hm
    rw [hp p.2 (by simp only [List.mem_toArray, List.mem_map]; exact ⟨p, hm, rfl⟩)]
  unfold evalOp
  cases hop : o.op <;> simp only <;> (try rfl) <;> rw [hop] at E <;> simp only [Op.operands] at E
  case move x => rw [E x (by simp)]
  case assign x => rw [E x (by simp)]
  case pick c x y => rw [E c (by simp), E x (by simp), E y (by simp)]
  case box t x => rw [E x (by simp)]
  case build t ps => rw [parts ps E]
  case buildSlice t n ps => rw [parts ps E]
  case load t x => rw [E x (by simp)]
  case store t x y => rw [E x (by simp), E y (by simp)]
  case nilCheck x => rw [E x (by simp)]
  case binOp op xt x y yt => rw [E x (by simp), E y (by simp)]
  case unOp op xt x => rw [E x (by simp)]
  case convert s d x => rw [E x (by simp)]
  case makeFunc fn first captured =>
    cases fn <;> simp only
    rw [evs_congr captured.toList (fun x hx => E x (by simp; exact .inr (by simpa using hx)))]
  case makeSlice t n m => rw [E n (by simp), E m (by simp)]
  case slice t x lo hi mx =>
    cases mx <;> simp only
    have hlo : lo.map (ev a) = lo.map (ev b) := by cases lo <;> simp; exact E _ (by simp)
    have hhi : hi.map (ev a) = hi.map (ev b) := by cases hi <;> simp; exact E _ (by simp)
    rw [E x (by simp), hlo, hhi]
  case fieldAddr t x i => rw [E x (by simp)]
  case field t x i => rw [E x (by simp)]
  case indexAddr t x i => rw [E x (by simp), E i (by simp)]
  case index t x i => rw [E x (by simp), E i (by simp)]
  case makeMap t r => cases r <;> rfl
  case mapEntry t m k => rw [E m (by simp), E k (by simp)]
  case entryStore t m i x => rw [E m (by simp), E i (by simp), E x (by simp)]
  case range t m => rw [E m (by simp)]
  case extract x i => rw [E x (by simp)]
  case call c =>
    have hargs : ∀ x ∈ c.args.toList, ev a x = ev b x := fun x hx => E x (by simp only [Call.operands]; exact Array.mem_append.2 (.inr (by simpa using hx)))
    split
    · rename_i x t rest _ hc _; rw [hargs x (by rw [hc]; simp)]
    · rename_i x y t u _ hc _; rw [hargs x (by rw [hc]; simp), hargs y (by rw [hc]; simp)]
    · rename_i x y _ hc; rw [hargs x (by rw [hc]; simp), hargs y (by rw [hc]; simp)]
    · rename_i x y _ hc; rw [hargs x (by rw [hc]; simp), hargs y (by rw [hc]; simp)]
    · rfl

theorem guardRun_congr {ops : Array Oper} {o : Oper} {a b : Sl} (hs : SameAt ops o a b) : guardRun ops.toList a o = guardRun ops.toList b o := by
  unfold guardRun
  cases hg : o.guard with
  | none => rfl
  | some q =>
    obtain ⟨j, want⟩ := q
    simp only
    have : guardPV ops.toList a j = guardPV ops.toList b j := by
      unfold guardPV
      rw [Array.getElem?_toList]
      cases hj : ops[j]? with
      | none => rfl
      | some oj =>
        simp only
        cases hd : oj.dst with
        | none => rfl
        | some d => simp only; rw [hs d (List.mem_append_right _ (by simp [hg, hj, hd]))]
    rw [this]

theorem callPart_congr {ops : Array Oper} {o : Oper} {a b : Sl} (hs : SameAt ops o a b) : callPart a o = callPart b o := by
  unfold callPart
  cases hop : o.op <;> simp only
  rename_i c
  cases hc : c.callee <;> simp only
  rename_i f
  have E := hs.ev
  rw [hop] at E
  simp only [Op.operands, Call.operands, hc] at E
  have h1 : ev a f = ev b f := E f (by simp)
  have h2 : evs a c.args.toList = evs b c.args.toList := evs_congr _ (fun x hx => E x (by simp; exact .inr (by simpa using hx)))
  unfold calleeOf
  rw [h1, h2]

theorem home_looks {ops : Array Oper} {o : Oper} {d : Nat} (hd : home mu o = some d) {a b : Sl} (hs : SameAt ops o a b) : a d = b d := by
  have E := hs.ev
  unfold home at hd
  have key : ∀ x : Operand, x ∈ o.op.operands → homeX mu x = some d → a d = b d := by
    intro x hx hh
    unfold homeX at hh
    split at hh <;> try (simp at hh; done)
    split at hh <;> simp at hh
    subst hh
    exact E _ hx
  cases hop : o.op <;> simp only [hop] at hd <;> (try (simp at hd; done)) <;> rw [hop] at key <;> simp only [Op.operands] at key
  case load t x => exact key x (by simp) hd
  case store t x y => exact key x (by simp) hd
theorem homed_congr {ops : Array Oper} {o : Oper} {a b : Sl} (hs : SameAt ops o a b) : homed mu o a = homed mu o b := by
  unfold homed
  cases hd : home mu o with
  | none => rfl
  | some d => simp only; rw [home_looks hd hs]
theorem bare_congr {ops : Array Oper} {o : Oper} {a b : Sl} (hs : SameAt ops o a b) : bare mu o a = bare mu o b := by
  have E := hs.ev
  unfold bare
  rw [homed_congr hs]
  congr 1
  unfold bare0
  cases hop : o.op <;> simp only <;> (try rfl) <;> rw [hop] at E <;> simp only [Op.operands] at E
  case load t x => rw [E x (by simp)]
  case nilCheck x => rw [E x (by simp)]
  case fieldAddr t x i => rw [E x (by simp)]
  case indexAddr t x i => rw [E x (by simp)]
  case binOp op xt x y yt => rw [E x (by simp), E y (by simp)]
  case slice t x lo hi mx => rw [E x (by simp)]
  case call c =>
    split
    · rename_i x _ hc
      rw [E x (by simp only [Call.operands]; exact Array.mem_append.2 (.inr (by rw [← Array.mem_toList_iff, hc]; simp)))]
    · rfl

/-- the same heap, the same looks: the same outcome -/
theorem Out.congr {ops : Array Oper} {o : Oper} {s s2 : St} {v : PV} {h' : Hp} (h : Out P mu ops.toList o s v h') (hs : SameAt ops o s.sl s2.sl) (hh : s2.hp = s.hp) : Out P mu ops.toList o s2 v h' := by
  rcases h with ⟨h1, h2⟩ | ⟨h1, h2, h3⟩
  · refine .inl ⟨(guardRun_congr hs) ▸ h1, ?_⟩
    unfold OutW at h2 ⊢
    rw [← callPart_congr hs]
    cases hc : callPart s.sl o with
    | none =>
      rw [hc] at h2
      obtain ⟨h3, h4⟩ := h2
      refine ⟨(bare_congr hs) ▸ h3, ?_⟩
      obtain ⟨sl, hp⟩ := s; obtain ⟨sl2, hp2⟩ := s2
      simp only at hh hs; subst hh
      rw [← evalOp_congr hs]; exact h4
    | some q =>
      rw [hc] at h2
      cases q with
      | none => exact h2.elim
      | some q =>
        obtain ⟨g, args⟩ := q
        simp only at h2 ⊢
        unfold OutCall at h2 ⊢
        rw [hh]; exact h2
  · exact .inr ⟨(guardRun_congr hs) ▸ h1, h2, h3.trans hh.symm⟩

def Z0 (P : Program) (mu : Nat → Bool) (ops : Array Oper) (o : Oper) (s : St) (v : PV) (h' : Hp) : Prop := h' = s.hp ∧ ∀ s2 : St, SameAt ops o s.sl s2.sl → Out P mu ops.toList o s2 v s2.hp
def Sub (h h2 : Hp) : Prop := ∀ id o, hget h id = some o → hget h2 id = some o
def Z1 (P : Program) (mu : Nat → Bool) (ops : Array Oper) (o : Oper) (s : St) (v : PV) (h' : Hp) : Prop := h' = s.hp ∧ ∀ s2 : St, SameAt ops o s.sl s2.sl → Sub s.hp s2.hp → Out P mu ops.toList o s2 v s2.hp
def Z2 (P : Program) (mu : Nat → Bool) (ops : Array Oper) (o : Oper) (s : St) (v : PV) (h' : Hp) : Prop :=
  ∃ d ob, ∃ mk : Id → PV, o.dst = some d ∧ v = mk (hnext s.hp d) ∧ h' = hnew s.hp d ob ∧ ∀ s2 : St, SameAt ops o s.sl s2.sl → Out P mu ops.toList o s2 (mk (hnext s2.hp d)) (hnew s2.hp d ob)

theorem loadPV_sub {t : TypeId} {p v : PV} {h h2 : Hp} (hl : loadPV P t p h = some v) (hs : Sub h h2) : loadPV P t p h2 = some v := by
  unfold loadPV at hl ⊢
  split at hl
  · exact hl
  · exact hl
  · rename_i id n off _
    cases ho : hget h id with
    | none => simp [ho] at hl
    | some o => simp only [ho] at hl; simp only [hs _ _ ho]; exact hl
  · rename_i id n off _
    cases ho : hget h id with
    | none => simp [ho] at hl
    | some o => simp only [ho] at hl; simp only [hs _ _ ho]; exact hl
  · cases hl
theorem loadPV_bare {t : TypeId} {p v : PV} {h : Hp} (hb : p.isRef = false) (hl : loadPV P t p h = some v) (h2 : Hp) : loadPV P t p h2 = some v := by
  unfold loadPV at hl ⊢
  split at hl
  · exact hl
  · exact hl
  · simp [PV.isRef] at hb
  · simp [PV.isRef] at hb
  · cases hl
theorem valid_sub {h h2 : Hp} {id : Id} {n : Nat} (hv : valid h id n = true) (hs : Sub h h2) : valid h2 id n = true := by
  obtain ⟨o, ho, hl⟩ := valid_spec hv
  simp [valid, hs _ _ ho, hl]
theorem fieldAddrPV_sub {t : TypeId} {i : Nat} {p v : PV} {h h2 : Hp} (hl : fieldAddrPV P t i p h = some v) (hs : Sub h h2) : fieldAddrPV P t i p h2 = some v := by
  unfold fieldAddrPV at hl ⊢
  split at hl <;> try (simp at hl; done)
  split at hl <;> simp at hl
  · simp [hl]
  · simp [valid_sub hl.1 hs, hl.2]
theorem fieldAddrPV_bare {t : TypeId} {i : Nat} {p v : PV} {h : Hp} (hb : p.isRef = false) (hl : fieldAddrPV P t i p h = some v) (h2 : Hp) : fieldAddrPV P t i p h2 = some v := by
  unfold fieldAddrPV at hl ⊢
  split at hl <;> try (simp at hl; done)
  split at hl <;> simp at hl
  · simp [hl]
  · simp [PV.isRef] at hb
theorem indexAddrPV_sub {t : TypeId} {p q v : PV} {h h2 : Hp} (hl : indexAddrPV P t p q h = some v) (hs : Sub h h2) : indexAddrPV P t p q h2 = some v := by
  unfold indexAddrPV at hl ⊢
  split at hl <;> try (simp at hl; done)
  split at hl <;> try (simp at hl; done)
  · exact hl
  · split at hl <;> try (simp at hl; done)
    rename_i o ho
    simp only [hs _ _ ho]
    exact hl
theorem indexAddrPV_bare {t : TypeId} {p q v : PV} {h : Hp} (hb : p.isRef = false) (hl : indexAddrPV P t p q h = some v) (h2 : Hp) : indexAddrPV P t p q h2 = some v := by
  unfold indexAddrPV at hl ⊢
  split at hl <;> try (simp at hl; done)
  split at hl <;> try (simp at hl; done)
  · exact hl
  · simp [PV.isRef] at hb
theorem lenPV_sub {p v : PV} {h h2 : Hp} (hl : lenPV h p = some v) (hs : Sub h h2) : lenPV h2 p = some v := by
  unfold lenPV at hl ⊢
  split at hl <;> simp at hl
  · simp [hl]
  · simp [valid_sub hl.1 hs, hl.2]
theorem lenPV_bare {p v : PV} {h : Hp} (hb : p.isRef = false) (hl : lenPV h p = some v) (h2 : Hp) : lenPV h2 p = some v := by
  unfold lenPV at hl ⊢
  split at hl <;> simp at hl
  · simp [hl]
  · simp [PV.isRef] at hb
theorem isNil_sub {p : PV} {b : Bool} {h h2 : Hp} (hl : isNilPV h p = some b) (hs : Sub h h2) : isNilPV h2 p = some b := by
  unfold isNilPV at hl ⊢
  split at hl <;> simp at hl
  · simp [hl]
  · simp [valid_sub hl.1 hs, hl.2]
theorem isNil_bare {p : PV} {b : Bool} {h : Hp} (hb : p.isRef = false) (hl : isNilPV h p = some b) (h2 : Hp) : isNilPV h2 p = some b := by
  unfold isNilPV at hl ⊢
  split at hl <;> simp at hl
  · simp [hl]
  · simp [PV.isRef] at hb
theorem binPV_heap {op : BinOp} {xt : TypeId} {p q v : PV} {h h2 : Hp} (hl : binPV P h op xt p q = some v) (hn : ∀ b, isNilPV h p = some b → isNilPV h2 p = some b) : binPV P h2 op xt p q = some v := by
  unfold binPV at hl ⊢
  split at hl
  · exact hl
  · exact hl
  · exact hl
  · split at hl <;> try (simp at hl; done)
    rename_i e b he hb
    simp only [he, hn b hb]
    exact hl
  · cases hl

theorem still_some {p : Option PV} {h : Hp} {v : PV} {h' : Hp} (he : still p h = some (v, h')) : p = some v ∧ h' = h := by
  unfold still at he
  split at he <;> simp at he
  obtain ⟨rfl, rfl⟩ := he
  exact ⟨rfl, rfl⟩
theorem still_mk {p : Option PV} {h : Hp} {v : PV} (hp : p = some v) : still p h = some (v, h) := by simp [still, hp]

theorem slicePV_bare {t : TypeId} {p v : PV} {lo hi : Option PV} {h h' : Hp} (hb : p.isRef = false) (hl : slicePV P t p lo hi h = some (v, h')) : h' = h ∧ ∀ h2, slicePV P t p lo hi h2 = some (v, h2) := by
  unfold slicePV at hl ⊢
  split at hl
  · split at hl <;> try (simp at hl; done)
    split at hl <;> try (simp at hl; done)
    rename_i hc
    split at hl <;> try (simp at hl; done)
    split at hl <;> simp at hl
    rename_i hd
    refine ⟨hl.2.symm, fun h2 => ?_⟩
    rw [if_pos hc]
    simp only [hd, and_self, if_true, hl.1]
  · simp [PV.isRef] at hb
  · split at hl <;> try (simp at hl; done)
    rename_i hc
    split at hl <;> try (simp at hl; done)
    split at hl <;> simp at hl
    rename_i hd
    refine ⟨hl.2.symm, fun h2 => ?_⟩
    rw [if_pos hc]
    simp only [hd, and_self, if_true, hl.1]
  · simp at hl
theorem evalOp_k0 {o : Oper} {sl : Sl} {h h' : Hp} {v : PV} (hk : hkind mu o = 0) (hb : bare mu o sl = true) (he : evalOp P mu o ⟨sl, h⟩ = some (v, h')) : h' = h ∧ ∀ h2, evalOp P mu o ⟨sl, h2⟩ = some (v, h2) := by
  unfold evalOp at he ⊢
  unfold hkind at hk
  simp only [bare, Bool.and_eq_true] at hb
  replace hb := hb.2
  unfold bare0 at hb
  have site : ∀ d, o.dst = some d → (match o.dst with | some d => if mu d then 2 else 0 | none => 0) = 0 → mu d = false := by
    intro d hd hh; rw [hd] at hh; simp only at hh; split at hh <;> simp_all
  have newVar : ∀ t cs, newVarPV P mu o.dst t cs h = some (v, h') → (match o.dst with | some d => if mu d then 2 else 0 | none => 0) = 0 → h' = h ∧ ∀ h2, newVarPV P mu o.dst t cs h2 = some (v, h2) := by
    intro t cs hn hh
    unfold newVarPV at hn ⊢
    split at hn <;> try (simp at hn; done)
    rename_i d ag hd hag
    split at hn <;> try (simp at hn; done)
    rename_i hc
    rw [hd] at hh
    simp only at hh
    split at hh <;> try (simp at hh; done)
    rename_i hm
    simp only [hm, if_false, Bool.false_eq_true] at hn ⊢
    split at hn <;> simp at hn
    rename_i ts hts
    refine ⟨hn.2.symm, fun h2 => ?_⟩
    simp only [hd, hag, hc, and_self, if_true, hts, hn.1]
  have newRow : ∀ e len cs, newRowPV P mu o.dst e len cs h = some (v, h') → (match o.dst with | some d => if mu d then 2 else 0 | none => 0) = 0 → h' = h ∧ ∀ h2, newRowPV P mu o.dst e len cs h2 = some (v, h2) := by
    intro e len cs hn hh
    unfold newRowPV at hn ⊢
    split at hn <;> try (simp at hn; done)
    rename_i d ag hd hag
    split at hn <;> try (simp at hn; done)
    rename_i hc
    rw [hd] at hh
    simp only at hh
    split at hh <;> try (simp at hh; done)
    rename_i hm
    simp only [hm, if_false, Bool.false_eq_true] at hn ⊢
    split at hn <;> simp at hn
    rename_i ts hts
    refine ⟨hn.2.symm, fun h2 => ?_⟩
    simp only [hd, hag, hc, if_false, hts, hn.1]
  cases hop : o.op <;> simp only [hop] at he hk hb ⊢ <;> try (simp at he; done)
  case move x => simp at he; exact ⟨he.2.symm, fun _ => by simp [he.1]⟩
  case assign x => simp at he; exact ⟨he.2.symm, fun _ => by simp [he.1]⟩
  case pick c x y =>
    split at he <;> simp at he
    exact ⟨he.2.symm, fun _ => by simp [he.1]⟩
  case alloc t =>
    split at he <;> try (simp at he; done)
    exact newVar _ _ he hk
  case box t x => exact newVar _ _ he hk
  case build t ps => obtain ⟨h1, h2⟩ := still_some he; exact ⟨h2, fun _ => still_mk h1⟩
  case buildSlice t n ps =>
    unfold buildSlicePV at he ⊢
    split at he <;> try (simp at he; done)
    split at he <;> try (simp at he; done)
    split at he <;> try (simp at he; done)
    rename_i hc
    split at he <;> try (simp at he; done)
    rename_i hcs
    split at he <;> try (simp at he; done)
    rename_i hone
    obtain ⟨h1, h2⟩ := newRow _ _ _ he hk
    exact ⟨h1, fun hh => by simp only [hc, and_self, if_true, hcs, hone]; exact h2 hh⟩
  case load t x =>
    obtain ⟨h1, h2⟩ := still_some he
    split at hk <;> try (simp at hk; done)
    rename_i hm
    simp only [hm, Bool.false_or, Bool.not_eq_true'] at hb
    exact ⟨h2, fun _ => still_mk (loadPV_bare hb h1 _)⟩
  case makeMap => simp at hk
  case mapEntry => simp at hk
  case entryStore => simp at hk
  case range => simp at hk
  case store => simp at hk
  case nilCheck x =>
    split at hk <;> try (simp at hk; done)
    rename_i hm
    simp only [hm, Bool.false_or, Bool.not_eq_true'] at hb
    split at he
    · simp at he; exact ⟨he.2.symm, fun _ => by simp [he.1]⟩
    · rename_i hx; rw [hx] at hb; simp [PV.isRef] at hb
    · simp at he
  case binOp op xt x y yt =>
    obtain ⟨h1, h2⟩ := still_some he
    split at hk <;> try (simp at hk; done)
    rename_i hm
    simp only [Bool.or_eq_true, not_or, Bool.not_eq_true] at hm
    simp only [hm.1, hm.2, Bool.false_or, Bool.and_eq_true, Bool.not_eq_true'] at hb
    exact ⟨h2, fun _ => still_mk (binPV_heap h1 (fun b hh => isNil_bare hb.1 hh _))⟩
  case unOp op xt x => obtain ⟨h1, h2⟩ := still_some he; exact ⟨h2, fun _ => still_mk h1⟩
  case convert s d x => obtain ⟨h1, h2⟩ := still_some he; exact ⟨h2, fun _ => still_mk h1⟩
  case makeFunc fn first captured =>
    cases fn <;> simp only at he ⊢ <;> try (simp at he; done)
    split at he <;> simp at he
    rename_i hf
    exact ⟨he.2.symm, fun _ => by rw [if_pos (by simpa using hf), he.1]⟩
  case makeSlice t n m =>
    unfold makeSlicePV at he ⊢
    split at he <;> try (simp at he; done)
    split at he <;> try (simp at he; done)
    split at he <;> try (simp at he; done)
    rename_i hc
    obtain ⟨h1, h2⟩ := newRow _ _ _ he hk
    exact ⟨h1, fun hh => by simp only [hc, and_self, if_true]; exact h2 hh⟩
  case slice t x lo hi mx =>
    split at hk <;> try (simp at hk; done)
    rename_i hm
    simp only [hm, Bool.not_true, Bool.false_or, Bool.not_eq_true'] at hb
    cases mx with
    | none => exact slicePV_bare hb he
    | some _ => simp at he
  case fieldAddr t x i =>
    obtain ⟨h1, h2⟩ := still_some he
    split at hk <;> try (simp at hk; done)
    rename_i hm
    simp only [hm, Bool.false_or, Bool.not_eq_true'] at hb
    exact ⟨h2, fun _ => still_mk (fieldAddrPV_bare hb h1 _)⟩
  case field t x i => obtain ⟨h1, h2⟩ := still_some he; exact ⟨h2, fun _ => still_mk h1⟩
  case indexAddr t x i =>
    obtain ⟨h1, h2⟩ := still_some he
    split at hk <;> try (simp at hk; done)
    rename_i hm
    simp only [hm, Bool.false_or, Bool.not_eq_true'] at hb
    exact ⟨h2, fun _ => still_mk (indexAddrPV_bare hb h1 _)⟩
  case index t x i => obtain ⟨h1, h2⟩ := still_some he; exact ⟨h2, fun _ => still_mk h1⟩
  case extract x i =>
    split at he
    · split at he <;> simp at he
      rename_i hy
      exact ⟨he.2.symm, fun _ => by simp [hy, he.1]⟩
    · split at he <;> simp at he
      rename_i hy
      exact ⟨he.2.symm, fun _ => by simp [hy, he.1]⟩
    · simp at he
  case call c =>
    split at he
    · rename_i x t rest hc hargs htys
      simp only [hc, hargs] at hk hb
      split at hk <;> try (simp at hk; done)
      rename_i hm
      simp only [hm, Bool.false_or, Bool.not_eq_true'] at hb
      split at he
      · rename_i hst
        simp only [hst, if_true]
        split at he <;> simp at he
        exact ⟨he.2.symm, fun _ => by simp [he.1]⟩
      · rename_i hst
        simp only [hst, if_false, Bool.false_eq_true]
        split at he <;> try (simp at he; done)
        rename_i hel
        obtain ⟨h1, h2⟩ := still_some he
        exact ⟨h2, fun _ => by rw [if_pos hel]; exact still_mk (lenPV_bare hb h1 _)⟩
    · rename_i x y t u hc hargs htys
      simp only [hc, hargs] at hk
      simp at hk
    · obtain ⟨h1, h2⟩ := still_some he; exact ⟨h2, fun _ => still_mk h1⟩
    · obtain ⟨h1, h2⟩ := still_some he; exact ⟨h2, fun _ => still_mk h1⟩
    · simp at he

theorem evalOp_k1 {o : Oper} {sl : Sl} {h h' : Hp} {v : PV} (hk : hkind mu o = 1) (he : evalOp P mu o ⟨sl, h⟩ = some (v, h')) : h' = h ∧ ∀ h2, Sub h h2 → evalOp P mu o ⟨sl, h2⟩ = some (v, h2) := by
  unfold evalOp at he ⊢
  unfold hkind at hk
  cases hop : o.op <;> simp only [hop] at he hk ⊢ <;> try (simp at hk; done)
  case slice => split at hk <;> simp at hk
  case load t x => obtain ⟨h1, h2⟩ := still_some he; exact ⟨h2, fun _ hs => still_mk (loadPV_sub h1 hs)⟩
  case nilCheck x =>
    split at he
    · simp at he; exact ⟨he.2.symm, fun _ _ => by simp [he.1]⟩
    · split at he <;> simp at he
      rename_i hv
      exact ⟨he.2.symm, fun _ hs => by simp [valid_sub hv hs, he.1]⟩
    · simp at he
  case binOp op xt x y yt => obtain ⟨h1, h2⟩ := still_some he; exact ⟨h2, fun _ hs => still_mk (binPV_heap h1 (fun b hh => isNil_sub hh hs))⟩
  case fieldAddr t x i => obtain ⟨h1, h2⟩ := still_some he; exact ⟨h2, fun _ hs => still_mk (fieldAddrPV_sub h1 hs)⟩
  case indexAddr t x i => obtain ⟨h1, h2⟩ := still_some he; exact ⟨h2, fun _ hs => still_mk (indexAddrPV_sub h1 hs)⟩
  case alloc t => split at hk <;> try (simp at hk; done)
                  split at hk <;> simp at hk
  case box t x => split at hk <;> try (simp at hk; done)
                  split at hk <;> simp at hk
  case makeSlice t n m => split at hk <;> try (simp at hk; done)
                          split at hk <;> simp at hk
  case buildSlice t n ps => split at hk <;> try (simp at hk; done)
                            split at hk <;> simp at hk
  case call c =>
    split at he
    · rename_i x t rest hc hargs htys
      split at he
      · rename_i hst
        simp only [hst, if_true]
        split at he <;> simp at he
        exact ⟨he.2.symm, fun _ _ => by simp [he.1]⟩
      · rename_i hst
        simp only [hst, if_false, Bool.false_eq_true]
        split at he <;> try (simp at he; done)
        rename_i hel
        obtain ⟨h1, h2⟩ := still_some he
        exact ⟨h2, fun _ hs => by rw [if_pos hel]; exact still_mk (lenPV_sub h1 hs)⟩
    · rename_i x y t u hc hargs htys
      simp only [hc, hargs] at hk
      simp at hk
    · obtain ⟨h1, h2⟩ := still_some he; exact ⟨h2, fun _ _ => still_mk h1⟩
    · obtain ⟨h1, h2⟩ := still_some he; exact ⟨h2, fun _ _ => still_mk h1⟩
    · simp at he

theorem evalOp_k2 {o : Oper} {sl : Sl} {h h' : Hp} {v : PV} (hk : hkind mu o = 2) (he : evalOp P mu o ⟨sl, h⟩ = some (v, h')) :
    ∃ d ob, ∃ mk : Id → PV, o.dst = some d ∧ v = mk (hnext h d) ∧ h' = hnew h d ob ∧ ∀ h2, evalOp P mu o ⟨sl, h2⟩ = some (mk (hnext h2 d), hnew h2 d ob) := by
  unfold evalOp at he ⊢
  unfold hkind at hk
  have newVar : ∀ t cs, newVarPV P mu o.dst t cs h = some (v, h') → (match o.dst with | some d => if mu d then 2 else 0 | none => 0) = 2 →
      ∃ d ob, ∃ mk : Id → PV, o.dst = some d ∧ v = mk (hnext h d) ∧ h' = hnew h d ob ∧ ∀ h2, newVarPV P mu o.dst t cs h2 = some (mk (hnext h2 d), hnew h2 d ob) := by
    intro t cs hn hh
    unfold newVarPV at hn ⊢
    split at hn <;> try (simp at hn; done)
    rename_i d ag hd hag
    split at hn <;> try (simp at hn; done)
    rename_i hc
    rw [hd] at hh
    simp only at hh
    split at hh <;> try (simp at hh; done)
    rename_i hm
    simp only [hm, if_true] at hn
    simp at hn
    refine ⟨d, _, fun id => .ad id 1 0, hd, hn.1.symm, hn.2.symm, fun h2 => ?_⟩
    simp only [hd, hag, hc, and_self, if_true, hm]
  have newRow : ∀ e len cs, newRowPV P mu o.dst e len cs h = some (v, h') → (match o.dst with | some d => if mu d then 2 else 0 | none => 0) = 2 →
      ∃ d ob, ∃ mk : Id → PV, o.dst = some d ∧ v = mk (hnext h d) ∧ h' = hnew h d ob ∧ ∀ h2, newRowPV P mu o.dst e len cs h2 = some (mk (hnext h2 d), hnew h2 d ob) := by
    intro e len cs hn hh
    unfold newRowPV at hn ⊢
    split at hn <;> try (simp at hn; done)
    rename_i d ag hd hag
    split at hn <;> try (simp at hn; done)
    rename_i hc
    rw [hd] at hh
    simp only at hh
    split at hh <;> try (simp at hh; done)
    rename_i hm
    simp only [hm, if_true] at hn
    simp at hn
    refine ⟨d, _, fun id => .rf id len, hd, hn.1.symm, hn.2.symm, fun h2 => ?_⟩
    simp only [hd, hag, hc, if_false, hm, if_true]
  cases hop : o.op <;> simp only [hop] at he hk ⊢ <;> try (simp at hk; done)
  case slice => split at hk <;> simp at hk
  case load t x => split at hk <;> simp at hk
  case nilCheck x => split at hk <;> simp at hk
  case fieldAddr t x i => split at hk <;> simp at hk
  case indexAddr t x i => split at hk <;> simp at hk
  case binOp op xt x y yt => split at hk <;> simp at hk
  case call c => split at hk <;> first | (simp at hk; done) | (split at hk <;> simp at hk; done)
  case alloc t =>
    split at he <;> try (simp at he; done)
    exact newVar _ _ he hk
  case box t x => exact newVar _ _ he hk
  case buildSlice t n ps =>
    unfold buildSlicePV at he ⊢
    split at he <;> try (simp at he; done)
    split at he <;> try (simp at he; done)
    split at he <;> try (simp at he; done)
    rename_i hc
    split at he <;> try (simp at he; done)
    rename_i hcs
    split at he <;> try (simp at he; done)
    rename_i hone
    obtain ⟨d, ob, mk, h1, h2, h3, h4⟩ := newRow _ _ _ he hk
    exact ⟨d, ob, mk, h1, h2, h3, fun hh => by simp only [hc, and_self, if_true, hcs, hone]; exact h4 hh⟩
  case makeSlice t n m =>
    unfold makeSlicePV at he ⊢
    split at he <;> try (simp at he; done)
    split at he <;> try (simp at he; done)
    split at he <;> try (simp at he; done)
    rename_i hc
    obtain ⟨d, ob, mk, h1, h2, h3, h4⟩ := newRow _ _ _ he hk
    exact ⟨d, ob, mk, h1, h2, h3, fun hh => by simp only [hc, and_self, if_true]; exact h4 hh⟩

/-- an outcome's kind -/
theorem Out.kind {ops : Array Oper} {o : Oper} {s : St} {v : PV} {h' : Hp} (h : Out P mu ops.toList o s v h') :
    Z0 P mu ops o s v h' ∨ (hkind mu o = 1 ∧ Z1 P mu ops o s v h') ∨ (hkind mu o = 2 ∧ Z2 P mu ops o s v h') ∨ (hkind mu o ≠ 0 ∧ hkind mu o ≠ 1 ∧ hkind mu o ≠ 2) := by
  rcases h with ⟨h1, h2⟩ | ⟨h1, rfl, rfl⟩
  · have hcall : ∀ q, callPart s.sl o = some q → hkind mu o = if fatB mu o.dst then 3 else 0 := by
      intro q hq
      unfold callPart at hq
      split at hq <;> try (simp at hq; done)
      rename_i c hop
      split at hq <;> try (simp at hq; done)
      rename_i f hc
      unfold hkind
      simp only [hop, hc]
    unfold OutW at h2
    cases hc : callPart s.sl o with
    | some q =>
      rw [hc] at h2
      cases q with
      | none => exact h2.elim
      | some q =>
        obtain ⟨g, args⟩ := q
        rcases h2 with ⟨ts, r, t1, t2, rfl, rfl⟩ | ⟨t0, t1⟩
        · refine .inl ⟨rfl, fun s2 hs => .inl ⟨(guardRun_congr hs) ▸ h1, ?_⟩⟩
          unfold OutW
          rw [← callPart_congr hs, hc]
          exact .inl ⟨ts, r, t1, t2, rfl, rfl⟩
        · have hk := hcall _ hc
          rw [t0, if_pos rfl] at hk
          exact .inr (.inr (.inr ⟨by omega, by omega, by omega⟩))
    | none =>
      rw [hc] at h2
      obtain ⟨h3, h4⟩ := h2
      obtain ⟨sl, hp⟩ := s
      have mkOut : ∀ (s2 : St) (v : PV) (h' : Hp), SameAt ops o sl s2.sl → evalOp P mu o ⟨sl, s2.hp⟩ = some (v, h') → Out P mu ops.toList o s2 v h' := by
        intro s2 v h' hs hev
        refine .inl ⟨(guardRun_congr hs) ▸ h1, ?_⟩
        unfold OutW
        rw [← callPart_congr hs, hc]
        refine ⟨(bare_congr hs) ▸ h3, ?_⟩
        obtain ⟨sl2, hp2⟩ := s2
        rw [← evalOp_congr hs]; exact hev
      by_cases k0 : hkind mu o = 0
      · obtain ⟨e1, e2⟩ := evalOp_k0 k0 h3 h4
        exact .inl ⟨e1, fun s2 hs => mkOut s2 _ _ hs (e2 _)⟩
      · by_cases k1 : hkind mu o = 1
        · obtain ⟨e1, e2⟩ := evalOp_k1 k1 h4
          exact .inr (.inl ⟨k1, e1, fun s2 hs hsub => mkOut s2 _ _ hs (e2 _ hsub)⟩)
        · by_cases k2 : hkind mu o = 2
          · obtain ⟨d, ob, mk, e1, e2, e3, e4⟩ := evalOp_k2 k2 h4
            exact .inr (.inr (.inl ⟨k2, d, ob, mk, e1, e2, e3, fun s2 hs => mkOut s2 _ _ hs (e4 _)⟩))
          · exact .inr (.inr (.inr ⟨k0, k1, k2⟩))
  · exact .inl ⟨rfl, fun s2 hs => .inr ⟨(guardRun_congr hs) ▸ h1, rfl, rfl⟩⟩

/-- an outcome that concerns one site only -/
def Zh (P : Program) (mu : Nat → Bool) (ops : Array Oper) (o : Oper) (d : Nat) (s : St) (v : PV) (h' : Hp) : Prop :=
  ∃ L, h' = upd s.hp d L ∧ ∀ s2 : St, SameAt ops o s.sl s2.sl → s2.hp d = s.hp d → Out P mu ops.toList o s2 v (upd s2.hp d L)
theorem upd_self {α : Type} (f : Nat → α) (a : Nat) : upd f a (f a) = f := by
  funext u; unfold upd; split
  · rename_i h; rw [h]
  · rfl
theorem Out.home {ops : Array Oper} {o : Oper} {s : St} {v : PV} {h' : Hp} {d : Nat} (h : Out P mu ops.toList o s v h') (hd : home mu o = some d) : Zh P mu ops o d s v h' := by
  rcases h with ⟨h1, h2⟩ | ⟨h1, rfl, rfl⟩
  · have hc : callPart s.sl o = none := by
      unfold Vm.home at hd
      unfold callPart
      cases hop : o.op <;> simp only [hop] at hd <;> first | rfl | (simp at hd)
    unfold OutW at h2
    rw [hc] at h2
    obtain ⟨h3, h4⟩ := h2
    have hh : homed mu o s.sl = true := by simp only [bare, Bool.and_eq_true] at h3; exact h3.1
    have mkOut : ∀ (s2 : St) (v : PV) (h' : Hp), SameAt ops o s.sl s2.sl → evalOp P mu o ⟨s.sl, s2.hp⟩ = some (v, h') → Out P mu ops.toList o s2 v h' := by
      intro s2 v h' hs hev
      refine .inl ⟨(guardRun_congr hs) ▸ h1, ?_⟩
      unfold OutW
      rw [← callPart_congr hs, hc]
      refine ⟨(bare_congr hs) ▸ h3, ?_⟩
      obtain ⟨sl2, hp2⟩ := s2
      rw [← evalOp_congr hs]; exact hev
    unfold homed at hh
    rw [hd] at hh
    simp only at hh
    have hval : ∃ id n off, s.sl d = .ad id n off ∧ id.1 = d := by
      unfold PV.at_ at hh
      split at hh
      · rename_i id n off heq; exact ⟨id, n, off, heq, by simpa using hh⟩
      · cases hh
    obtain ⟨id, n, off, hsl, hid⟩ := hval
    have hgeq : ∀ h2 : Hp, h2 d = s.hp d → hget h2 id = hget s.hp id := fun h2 he => by unfold hget; rw [hid, he]
    have opnd : ∀ x : Operand, homeX mu x = some d → ev s.sl x = .ad id n off := by
      intro x hx
      unfold homeX at hx
      split at hx <;> try (simp at hx; done)
      split at hx <;> simp at hx
      subst hx
      exact hsl
    unfold Vm.home at hd
    cases hop : o.op <;> simp only [hop] at hd <;> try (simp at hd; done)
    case load t x =>
      have hx := opnd x hd
      have hev : ∀ h2 : Hp, evalOp P mu o ⟨s.sl, h2⟩ = still (loadPV P t (.ad id n off) h2) h2 := fun h2 => by unfold evalOp; simp only [hop, hx]
      have h4' : evalOp P mu o ⟨s.sl, s.hp⟩ = some (v, h') := h4
      rw [hev] at h4'
      obtain ⟨e1, e2⟩ := still_some h4'
      refine ⟨s.hp d, by rw [e2, upd_self], fun s2 hs he => mkOut s2 _ _ hs ?_⟩
      rw [hev, ← he, upd_self]
      refine still_mk ?_
      rw [← e1]
      unfold loadPV
      cases aggB P t with
      | none => rfl
      | some b => cases b <;> simp only [hgeq _ he]
    case store t x y =>
      have hx := opnd x hd
      have hev : ∀ h2 : Hp, evalOp P mu o ⟨s.sl, h2⟩ = (match storePV P t (.ad id n off) (ev s.sl y) h2 with | some h => some (.skip, h) | none => none) := fun h2 => by
        unfold evalOp; simp only [hop, hx]
        cases storePV P t (.ad id n off) (ev s.sl y) h2 <;> rfl
      have h4' : evalOp P mu o ⟨s.sl, s.hp⟩ = some (v, h') := h4
      rw [hev] at h4'
      split at h4' <;> simp at h4'
      rename_i hh2 hst
      obtain ⟨rfl, rfl⟩ := h4'
      unfold storePV at hst
      cases ho : hget s.hp id with
      | none => simp [ho] at hst
      | some ob =>
        simp only [ho] at hst
        split at hst <;> simp at hst
        rename_i hcond
        subst hst
        refine ⟨(s.hp d).set id.2 { ob with cs := splice ob.cs off (ev s.sl y).cells }, by unfold hset; rw [hid], fun s2 hs he => mkOut s2 _ _ hs ?_⟩
        rw [hev]
        have : storePV P t (.ad id n off) (ev s.sl y) s2.hp = some (upd s2.hp d ((s.hp d).set id.2 { ob with cs := splice ob.cs off (ev s.sl y).cells })) := by
          unfold storePV
          simp only [hgeq _ he, ho]
          rw [if_pos hcond]
          unfold hset
          rw [hid, he]
        rw [this]
  · exact ⟨s.hp d, (upd_self _ _).symm, fun s2 hs he => by rw [← he, upd_self]; exact .inr ⟨(guardRun_congr hs) ▸ h1, rfl, rfl⟩⟩

theorem upd_comm {α : Type} (f : Nat → α) {a b : Nat} (x y : α) (h : a ≠ b) : upd (upd f a x) b y = upd (upd f b y) a x := by
  funext u
  simp only [upd]
  by_cases h1 : u = b
  · subst h1; simp [Ne.symm h]
  · simp [h1]

theorem put_comm (s : St) (h1 h2 : Hp) {a b : Option Tmp} (x y : PV) (hne : ∀ d, a = some d → b ≠ some d) :
    St.put { (St.put { s with hp := h1 } a x) with hp := h2 } b y = St.put { (St.put { s with hp := h1 } b y) with hp := h2 } a x := by
  cases a with
  | none => cases b <;> rfl
  | some d =>
    cases b with
    | none => rfl
    | some e =>
      have hde : d ≠ e := fun h => hne d rfl (h ▸ rfl)
      simp only [St.put]
      rw [upd_comm _ _ _ hde]

theorem sameAt_put {ops : Array Oper} {o : Oper} {s : St} {d : Option Tmp} {v : PV} {h : Hp} (hd : ∀ t, d = some t → t ∉ o.looksAt ops) : SameAt ops o (St.put { s with hp := h } d v).sl s.sl := by
  intro t ht
  cases d with
  | none => rfl
  | some e =>
    simp only [St.put]
    exact upd_ne _ _ _ _ (fun h => hd e rfl (h ▸ ht))

theorem put_hp (s : St) (h : Hp) (d : Option Tmp) (v : PV) : (St.put { s with hp := h } d v).hp = h := by cases d <;> rfl
theorem put_put (s : St) (h h2 : Hp) (d e : Option Tmp) (v x : PV) : St.put { (St.put { s with hp := h } d v) with hp := h2 } e x = St.put { (St.put { s with hp := h2 } d v) with hp := h2 } e x := by
  cases d <;> cases e <;> rfl

/-- two operations that may change places -/
theorem Step.swap {ops : Array Oper} {x y : Oper} {s s1 s2 : St} (hi : indepB mu ops x y = true) (h1 : Step P mu ops.toList x s s1) (h2 : Step P mu ops.toList y s1 s2) :
    ∃ t, Step P mu ops.toList y s t ∧ Step P mu ops.toList x t s2 := by
  simp only [indepB, Bool.and_eq_true] at hi
  obtain ⟨hap, hfr⟩ := hi
  obtain ⟨a1, a2, a3⟩ := Oper.apart_spec hap
  obtain ⟨vx, hx, ox, rfl⟩ := h1
  obtain ⟨vy, hy, oy, rfl⟩ := h2
  have sy : SameAt ops y (St.put { s with hp := hx } x.dst vx).sl s.sl := sameAt_put a1
  have sx : ∀ h v, SameAt ops x s.sl (St.put { s with hp := h } y.dst v).sl := fun h v t ht => (sameAt_put (s := s) (h := h) (v := v) a3 t ht).symm
  have fin : ∀ (h : Hp) (t : St), t = St.put { s with hp := h } y.dst vy → Out P mu ops.toList y s vy h → (∀ h'', Out P mu ops.toList x t vx h'' → h'' = hy → ∃ t, Step P mu ops.toList y s t ∧ Step P mu ops.toList x t (St.put { (St.put { s with hp := hx } x.dst vx) with hp := hy } y.dst vy)) := by
    intro h t ht o1 h'' o2 he
    subst ht; subst he
    refine ⟨_, ⟨vy, h, o1, rfl⟩, vx, h'', o2, ?_⟩
    rw [put_put, put_put s h, put_comm _ _ _ _ _ a2]
  rw [Bool.or_eq_true] at hfr
  rcases hfr with hfr | hst
  rotate_left
  · -- two sites
    unfold hsite at hst
    split at hst <;> try (simp at hst; done)
    rename_i dx dy hdx hdy
    have hne : dx ≠ dy := by simpa using hst
    obtain ⟨Lx, gx, fx⟩ := ox.home hdx
    obtain ⟨Ly, gy, fy⟩ := oy.home hdy
    rw [put_hp] at gy fy
    have hxy : hx dy = s.hp dy := by rw [gx]; exact upd_ne _ _ _ _ (Ne.symm hne)
    have oy' := fy s sy hxy.symm
    refine fin (upd s.hp dy Ly) _ rfl oy' _ (fx (St.put { s with hp := upd s.hp dy Ly } y.dst vy) (sx _ _) (by rw [put_hp]; exact upd_ne _ _ _ _ hne)) ?_
    rw [put_hp, gy, gx, upd_comm _ _ _ hne]
  rcases oy.kind with z | ⟨ky, z⟩ | ⟨ky, z⟩ | ky
  · -- y does nothing with the heap
    obtain ⟨e1, e2⟩ := z
    rw [put_hp] at e1
    refine fin s.hp _ rfl (e2 s sy) hx (ox.congr (sx _ _) (put_hp _ _ _ _)) e1.symm
  · rcases ox.kind with zx | ⟨kx, zx⟩ | ⟨kx, zx⟩ | kx
    · obtain ⟨f1, f2⟩ := zx
      have oy' : Out P mu ops.toList y s vy hy := oy.congr sy (by rw [put_hp, f1])
      refine fin hy _ rfl oy' hy ?_ rfl
      have := f2 (St.put { s with hp := hy } y.dst vy) (sx _ _)
      rwa [put_hp] at this
    · obtain ⟨f1, f2⟩ := zx
      have oy' : Out P mu ops.toList y s vy hy := oy.congr sy (by rw [put_hp, f1])
      have hy' : hy = s.hp := by rw [z.1, put_hp, f1]
      refine fin hy _ rfl oy' hy ?_ rfl
      have := f2 (St.put { s with hp := hy } y.dst vy) (sx _ _) (by rw [put_hp, hy']; exact fun _ _ h => h)
      rwa [put_hp] at this
    · simp [hfree, ky, kx] at hfr
    · simp [hfree, ky] at hfr
      exact absurd hfr (by omega)
  · rcases ox.kind with zx | ⟨kx, zx⟩ | ⟨kx, zx⟩ | kx
    · obtain ⟨f1, f2⟩ := zx
      have oy' : Out P mu ops.toList y s vy hy := oy.congr sy (by rw [put_hp, f1])
      refine fin hy _ rfl oy' hy ?_ rfl
      have := f2 (St.put { s with hp := hy } y.dst vy) (sx _ _)
      rwa [put_hp] at this
    · obtain ⟨f1, f2⟩ := zx
      have oy' : Out P mu ops.toList y s vy hy := oy.congr sy (by rw [put_hp, f1])
      obtain ⟨d, ob, mk, g1, g2, g3, g4⟩ := z
      rw [put_hp, f1] at g3
      refine fin hy _ rfl oy' hy ?_ rfl
      have := f2 (St.put { s with hp := hy } y.dst vy) (sx _ _) (by
        rw [put_hp, g3]
        intro id o ho
        rw [hget_hnew, if_neg (fun e => by rw [e, hget_hnext] at ho; cases ho)]
        exact ho)
      rwa [put_hp] at this
    · obtain ⟨d, ob, mk, g1, g2, g3, g4⟩ := z
      obtain ⟨d', ob', mk', f1, f2, f3, f4⟩ := zx
      have hdd : d' ≠ d := fun e => a2 d' f1 (by rw [g1, e])
      rw [put_hp, f3] at g2 g3
      have hn : hnext (hnew s.hp d' ob') d = hnext s.hp d := by simp [hnext, hnew, upd_ne _ _ _ _ (Ne.symm hdd)]
      have oy' : Out P mu ops.toList y s vy (hnew s.hp d ob) := by
        have := g4 s sy
        rw [g2, hn]; exact this
      have hn2 : hnext (hnew s.hp d ob) d' = hnext s.hp d' := by simp [hnext, hnew, upd_ne _ _ _ _ hdd]
      have ox' := f4 (St.put { s with hp := hnew s.hp d ob } y.dst vy) (sx _ _)
      rw [put_hp, hn2, ← f2] at ox'
      refine fin (hnew s.hp d ob) _ rfl oy' _ ox' ?_
      rw [g3]
      simp only [hnew]
      rw [upd_ne _ _ _ _ hdd, upd_ne _ _ _ _ (Ne.symm hdd), upd_comm _ _ _ hdd]
    · simp [hfree, ky] at hfr
      exact absurd hfr (by omega)
  · rcases ox.kind with zx | ⟨kx, zx⟩ | ⟨kx, zx⟩ | kx
    · obtain ⟨f1, f2⟩ := zx
      have oy' : Out P mu ops.toList y s vy hy := oy.congr sy (by rw [put_hp, f1])
      refine fin hy _ rfl oy' hy ?_ rfl
      have := f2 (St.put { s with hp := hy } y.dst vy) (sx _ _)
      rwa [put_hp] at this
    · simp [hfree, kx] at hfr
      exact absurd hfr (by omega)
    · simp [hfree, kx] at hfr
      exact absurd hfr (by omega)
    · simp [hfree] at hfr
      exact absurd hfr (by omega)
end
end Go.Vm
