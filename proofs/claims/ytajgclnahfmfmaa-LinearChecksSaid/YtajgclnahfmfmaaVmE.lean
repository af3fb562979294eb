/- The abstract machine, stepped: what is left to do is a list of items, so that a walk is a plain rewriting. -/
import Derived.Test.YtajgclnahfmfmaaVmD
namespace Go.Vm
open Go

section
variable {P : Program} {mu : Nat → Bool}

theorem ICall.mono {g : FuncId} {args : List PV} {h : Hp} {Q Q' : PV → Hp → Prop} (hi : ICall P g args h Q) (hq : ∀ v h', Q v h' → Q' v h') : ICall P g args h Q' :=
  ⟨hi.1, fun w A μ vs h1 h2 h3 => (hi.2 w A μ vs h1 h2 h3).mono fun e w' ⟨v, r, h', μ', e1, e2, e3⟩ => ⟨v, r, h', μ', e1, hq _ _ e2, e3⟩⟩

theorem opW_mono {dr : Bool} {o : Oper} {s : St} {K K' : St → Prop} (h : ∀ s', (∀ t, o.dst ≠ some t → s'.sl t = s.sl t) → K s' → K' s') (hw : opW P mu dr o s K) : opW P mu dr o s K' := by
  have put : ∀ (h2 : Hp) (v : PV), ∀ t, o.dst ≠ some t → (St.put { s with hp := h2 } o.dst v).sl t = s.sl t := by
    intro h2 v t ht
    cases hd : o.dst with
    | none => rfl
    | some d => exact upd_ne _ _ _ _ (by rw [hd] at ht; exact fun e => ht (by rw [e]))
  unfold opW at hw ⊢
  cases heq : callPart s.sl o with
  | none =>
    rw [heq] at hw
    replace hw : plainW P mu dr o s K := hw
    change plainW P mu dr o s K'
    unfold plainW at hw ⊢
    cases hnp : nextPart s.sl o with
    | some p =>
      rw [hnp] at hw
      simp only at hw ⊢
      unfold nextW at hw ⊢
      split
      · simp only at hw
        refine ⟨hw.1, hw.2.1, fun s' hs' => h _ ?_ (hw.2.2 s' hs')⟩
        obtain ⟨ob, m, fs, om, kv, _, _, _, _, hh⟩ := hs'
        rcases hh with ⟨_, rfl⟩ | ⟨i, _, rfl⟩
        · exact put s.hp _
        · exact put _ _
      · rename_i hne
        split at hw
        · exact absurd rfl (hne _)
        · exact hw
    | none =>
    rw [hnp] at hw
    refine ⟨hw.1, ?_⟩
    have hw := hw.2
    cases he : evalOp P mu o s with
    | none => rw [he] at hw; exact hw
    | some q => rw [he] at hw; exact h _ (put _ _) hw
  | some q =>
    rw [heq] at hw
    cases q with
    | none => exact hw
    | some q =>
      replace hw : callW P mu dr o s q.1 q.2 K := hw
      change callW P mu dr o s q.1 q.2 K'
      unfold callW at hw ⊢
      by_cases hdr : dr = true
      · rw [if_pos hdr] at hw ⊢
        rcases hw with ⟨ts, r, h1, h2, h3⟩ | ⟨h0, v, h', h1, h2⟩
        · exact .inl ⟨ts, r, h1, h2, h _ (put s.hp _) h3⟩
        · exact .inr ⟨h0, v, h', h1, h _ (put _ _) h2⟩
      · rw [if_neg hdr] at hw ⊢
        rcases hw with ⟨ts, r, h1, h2, h3⟩ | hw
        · refine .inl ⟨ts, r, h1, h2, ?_⟩
          by_cases hsc : r.scalar = true
          · rw [if_pos hsc] at h3 ⊢; exact h _ (put s.hp _) h3
          · rw [if_neg hsc] at h3 ⊢; exact h _ (put _ _) h3
        · exact .inr (hw.mono fun v h' hq => h _ (put _ _) hq)

theorem opG_mono {dr : Bool} {all : List Oper} {o : Oper} {s : St} {K K' : St → Prop} (h : ∀ s', (∀ t, o.dst ≠ some t → s'.sl t = s.sl t) → K s' → K' s') (hw : opG P mu dr all o s K) : opG P mu dr all o s K' := by
  unfold opG at hw ⊢
  cases hr : guardRun all s.sl o with
  | none => rw [hr] at hw; exact hw
  | some r =>
    rw [hr] at hw
    refine ⟨fun e => opW_mono h (hw.1 e), fun e => h _ ?_ (hw.2 e)⟩
    intro t ht
    cases hd : o.dst with
    | none => rfl
    | some d => exact upd_ne _ _ _ _ (by rw [hd] at ht; exact fun e => ht (by rw [e]))

/-- the slots that code fills -/
def wrOps : List Oper → List Nat
  | [] => []
  | o :: r => match o.dst with | some d => d :: wrOps r | none => wrOps r
def writes : Code → List Nat
  | .region _ ops _ => wrOps ops.toList
  | .seq a b => writes a ++ writes b
  | .cond _ a b => writes a ++ writes b
  | .block _ b => writes b
  | .loop b => writes b
  | _ => []

theorem opsW_frame {dr : Bool} {all : List Oper} : ∀ (l : List Oper) (s : St) (K : St → Prop), opsW P mu dr all l s K → opsW P mu dr all l s (fun s' => K s' ∧ ∀ t, t ∉ wrOps l → s'.sl t = s.sl t)
  | [], s, K, h => ⟨h, fun _ _ => rfl⟩
  | o :: r, s, K, h => by
    simp only [opsW] at h ⊢
    refine opG_mono (fun s' hs hk => ?_) h
    have := opsW_frame r s' K hk
    have mono : ∀ (l : List Oper) (s : St) (K K' : St → Prop), (∀ s', K s' → K' s') → opsW P mu dr all l s K → opsW P mu dr all l s K' := by
      intro l
      induction l with
      | nil => intro s K K' hk h; exact hk s h
      | cons o l ih => intro s K K' hk h; exact opG_mono (fun s' _ h => ih s' K K' hk h) h
    refine mono r s' _ _ (fun s'' ⟨h1, h2⟩ => ⟨h1, fun t ht => ?_⟩) this
    simp only [wrOps] at ht
    cases hd : o.dst with
    | none => rw [hd] at ht; rw [h2 t ht, hs t (by rw [hd]; simp)]
    | some d =>
      rw [hd] at ht
      simp only [List.mem_cons, not_or] at ht
      rw [h2 t ht.2, hs t (by rw [hd]; simp; exact fun e => ht.1 e.symm)]

theorem opsW_mono {dr : Bool} {all : List Oper} : ∀ (l : List Oper) (s : St) (K K' : St → Prop), (∀ s', K s' → K' s') → opsW P mu dr all l s K → opsW P mu dr all l s K'
  | [], s, _, _, hk, h => hk s h
  | _ :: l, _, K, K', hk, h => opG_mono (fun s' _ h => opsW_mono l s' K K' hk h) h

theorem vwp_mono : ∀ (c : Code) (s : St) (K K' : Ex → St → Prop), (∀ e s', K e s' → K' e s') → Vm.wp P mu c s K → Vm.wp P mu c s K' := by
  intro c
  induction c with
  | skip => intro s K K' h hw; exact h _ _ hw
  | ret => intro s K K' h hw; exact h _ _ hw
  | exit n => intro s K K' h hw; exact h _ _ hw
  | region id ops dr => intro s K K' h hw; exact opsW_mono _ _ _ _ (fun s' => h _ s') hw
  | seq a b iha ihb =>
    intro s K K' h hw
    simp only [Vm.wp] at hw ⊢
    refine iha _ _ _ (fun e s' => ?_) hw
    cases e with
    | normal => exact ihb _ _ _ h
    | exit n => exact h _ _
    | ret => exact h _ _
  | cond c a b iha ihb =>
    intro s K K' h hw
    simp only [Vm.wp] at hw ⊢
    split
    · rename_i x hx; rw [hx] at hw; exact ⟨fun e => iha _ _ _ h (hw.1 e), fun e => ihb _ _ _ h (hw.2 e)⟩
    · rename_i hx; rw [hx] at hw; exact hw
  | block id b ih =>
    intro s K K' h hw
    simp only [Vm.wp] at hw ⊢
    refine ih _ _ _ (fun e s' => ?_) hw
    cases e with
    | normal => exact h _ _
    | exit n => simp only; split <;> exact h _ _
    | ret => exact h _ _
  | loop b ih =>
    intro s K K' h hw
    simp only [Vm.wp] at hw ⊢
    obtain ⟨I, n, h0, hr⟩ := hw
    refine ⟨I, n, h0, fun n s hI => ih _ _ _ (fun e s' => ?_) (hr n s hI)⟩
    cases e with
    | normal => exact id
    | exit n => exact h _ _
    | ret => exact h _ _
  | _ => intro s K K' h hw; exact hw.elim

theorem vwp_frame : ∀ (c : Code) (s : St) (K : Ex → St → Prop), Vm.wp P mu c s K → Vm.wp P mu c s (fun e s' => K e s' ∧ ∀ t, t ∉ writes c → s'.sl t = s.sl t) := by
  intro c
  induction c with
  | skip => intro s K hw; exact ⟨hw, fun _ _ => rfl⟩
  | ret => intro s K hw; exact ⟨hw, fun _ _ => rfl⟩
  | exit n => intro s K hw; exact ⟨hw, fun _ _ => rfl⟩
  | region id ops dr => intro s K hw; exact opsW_frame _ _ _ hw
  | seq a b iha ihb =>
    intro s K hw
    simp only [Vm.wp] at hw ⊢
    refine vwp_mono _ _ _ _ (fun e s' ⟨h1, h2⟩ => ?_) (iha _ _ hw)
    cases e with
    | normal =>
      refine vwp_mono _ _ _ _ (fun e s'' ⟨h3, h4⟩ => ⟨h3, fun t ht => ?_⟩) (ihb _ _ h1)
      simp only [writes, List.mem_append, not_or] at ht
      rw [h4 t ht.2, h2 t ht.1]
    | exit n => exact ⟨h1, fun t ht => h2 t (by simp only [writes, List.mem_append, not_or] at ht; exact ht.1)⟩
    | ret => exact ⟨h1, fun t ht => h2 t (by simp only [writes, List.mem_append, not_or] at ht; exact ht.1)⟩
  | cond c a b iha ihb =>
    intro s K hw
    simp only [Vm.wp] at hw ⊢
    split
    · rename_i x hx
      rw [hx] at hw
      exact ⟨fun e => vwp_mono _ _ _ _ (fun e s'' ⟨h3, h4⟩ => ⟨h3, fun t ht => h4 t (by simp only [writes, List.mem_append, not_or] at ht; exact ht.1)⟩) (iha _ _ (hw.1 e)),
        fun e => vwp_mono _ _ _ _ (fun e s'' ⟨h3, h4⟩ => ⟨h3, fun t ht => h4 t (by simp only [writes, List.mem_append, not_or] at ht; exact ht.2)⟩) (ihb _ _ (hw.2 e))⟩
    · rename_i hx; rw [hx] at hw; exact hw
  | block id b ih =>
    intro s K hw
    simp only [Vm.wp] at hw ⊢
    refine vwp_mono _ _ _ _ (fun e s' ⟨h1, h2⟩ => ?_) (ih _ _ hw)
    cases e with
    | normal => exact ⟨h1, h2⟩
    | exit n => simp only at h1 ⊢; split <;> rename_i hn <;> simp only [hn, if_true, if_false] at h1 <;> exact ⟨h1, h2⟩
    | ret => exact ⟨h1, h2⟩
  | loop b ih =>
    intro s K hw
    simp only [Vm.wp] at hw ⊢
    obtain ⟨I, n, h0, hr⟩ := hw
    refine ⟨fun n s' => I n s' ∧ ∀ t, t ∉ writes b → s'.sl t = s.sl t, n, ⟨h0, fun _ _ => rfl⟩, fun n s' ⟨hI, hf⟩ => ?_⟩
    refine vwp_mono _ _ _ _ (fun e s'' ⟨h1, h2⟩ => ?_) (ih _ _ (hr n s' hI))
    have h3 : ∀ t, t ∉ writes b → s''.sl t = s.sl t := fun t ht => (h2 t ht).trans (hf t ht)
    cases e with
    | normal => obtain ⟨m, hlt, hm⟩ := h1; exact ⟨m, hlt, hm, h3⟩
    | exit n => exact ⟨h1, h3⟩
    | ret => exact ⟨h1, h3⟩
  | _ => intro s K hw; exact hw.elim

/-- an equation that is not to be taken as a mere unfolding -/
theorem nrfl {α : Type} {a b : α} (h : a = b) : a = b := h
theorem nrfl' {a b : Prop} (h : a = b) : a = b := h

/-! ## Items -/
inductive Item where
  | code (c : Code)
  | ops (dr : Bool) (all rest : List Oper)
  | blk (id : Nat)
  | back (G : St → Prop)

section
variable (P : Program) (mu : Nat → Bool) (F : Ex → St → Prop)
def kont : List Item → Ex → St → Prop
  | [], e, s => F e s
  | .code c :: r, e, s => match e with | .normal => Vm.wp P mu c s (kont r) | .exit n => kont r (.exit n) s | .ret => kont r .ret s
  | .ops dr all os :: r, e, s => match e with | .normal => opsW P mu dr all os s (kont r .normal) | .exit n => kont r (.exit n) s | .ret => kont r .ret s
  | .blk id :: r, e, s => match e with | .normal => kont r .normal s | .exit n => if n = id then kont r .normal s else kont r (.exit n) s | .ret => kont r .ret s
  | .back G :: r, e, s => match e with | .normal => G s | .exit n => kont r (.exit n) s | .ret => kont r .ret s

/-- go on with a value -/
def stK (x : Option PV) (d : Option Tmp) (r : List Item) (s : St) : Prop := match x with | some v => kont P mu F r .normal (St.put s d v) | none => False
/-- go on with a value and a heap -/
def hpK (x : Option (PV × Hp)) (d : Option Tmp) (r : List Item) (s : St) : Prop := match x with | some (v, h) => kont P mu F r .normal (St.put { s with hp := h } d v) | none => False
/-- go on with a heap -/
def wrK (x : Option Hp) (d : Option Tmp) (r : List Item) (s : St) : Prop := match x with | some h => kont P mu F r .normal (St.put { s with hp := h } d .skip) | none => False
/-- go on by a condition -/
def cdK (x : Option Bool) (a b : Code) (r : List Item) (s : St) : Prop := match x with | some true => kont P mu F (.code a :: r) .normal s | some false => kont P mu F (.code b :: r) .normal s | none => False
/-- go on by a guard -/
def gdK (x : Option (Option Bool)) (want dr : Bool) (all : List Oper) (o : Oper) (os : List Oper) (r : List Item) (s : St) : Prop := match x with
  | some (some b) => if b = want then kont P mu F (.ops dr all (o :: os) :: r) .normal s else kont P mu F (.ops dr all os :: r) .normal (St.put s o.dst .skip)
  | some none => kont P mu F (.ops dr all os :: r) .normal (St.put s o.dst .skip)
  | none => False
/-- go on with a call -/
def clK (dr : Bool) (d : Option Tmp) (q : Option (FuncId × List PV)) (r : List Item) (s : St) : Prop := match q with
  | some (g, args) => callW P mu dr { dst := d, op := .move (.tmp 0), type := 0, pos := "", after := #[], guard := none } s g args (kont P mu F r .normal)
  | none => False
end

variable {F : Ex → St → Prop} {r : List Item} {s : St}

theorem kont_start {c : Code} : Vm.wp P mu c s F = kont P mu F [.code c] .normal s := by
  simp only [kont]

@[go_sem ↓] theorem kont_nil (e : Ex) : kont P mu F [] e s = F e s := nrfl' rfl
@[go_sem ↓] theorem kont_seq (a b : Code) : kont P mu F (.code (.seq a b) :: r) .normal s = kont P mu F (.code a :: .code b :: r) .normal s := by
  simp only [kont, Vm.wp]
  congr 1
@[go_sem ↓] theorem kont_skip : kont P mu F (.code .skip :: r) .normal s = kont P mu F r .normal s := nrfl' rfl
@[go_sem ↓] theorem kont_exit (n : Nat) : kont P mu F (.code (.exit n) :: r) .normal s = kont P mu F r (.exit n) s := nrfl' rfl
@[go_sem ↓] theorem kont_ret : kont P mu F (.code .ret :: r) .normal s = kont P mu F r .ret s := nrfl' rfl
@[go_sem ↓] theorem kont_region (id : Nat) (ops : Array Oper) (dr : Bool) : kont P mu F (.code (.region id ops dr) :: r) .normal s = kont P mu F (.ops dr ops.toList ops.toList :: r) .normal s := nrfl' rfl
@[go_sem ↓] theorem kont_block (id : Nat) (b : Code) : kont P mu F (.code (.block id b) :: r) .normal s = kont P mu F (.code b :: .blk id :: r) .normal s := by
  simp only [kont, Vm.wp]
  congr 1
@[go_sem ↓] theorem kont_cond (c : Operand) (a b : Code) : kont P mu F (.code (.cond c a b) :: r) .normal s = cdK P mu F (boolOf (ev s.sl c)) a b r s := by
  simp only [kont, Vm.wp, cdK]
  cases boolOf (ev s.sl c) with
  | none => rfl
  | some x => cases x <;> simp
@[go_sem ↓] theorem kont_code_exit (c : Code) (n : Nat) : kont P mu F (.code c :: r) (.exit n) s = kont P mu F r (.exit n) s := nrfl' rfl
@[go_sem ↓] theorem kont_code_ret (c : Code) : kont P mu F (.code c :: r) .ret s = kont P mu F r .ret s := nrfl' rfl
@[go_sem ↓] theorem kont_blk (id : Nat) : kont P mu F (.blk id :: r) .normal s = kont P mu F r .normal s := nrfl' rfl
@[go_sem ↓] theorem kont_blk_ret (id : Nat) : kont P mu F (.blk id :: r) .ret s = kont P mu F r .ret s := nrfl' rfl
@[go_sem ↓] theorem kont_blk_exit (id n : Nat) : kont P mu F (.blk id :: r) (.exit n) s = if n = id then kont P mu F r .normal s else kont P mu F r (.exit n) s := nrfl' rfl
@[go_sem ↓] theorem kont_back (G : St → Prop) : kont P mu F (.back G :: r) .normal s = G s := nrfl' rfl
@[go_sem ↓] theorem kont_back_ret (G : St → Prop) : kont P mu F (.back G :: r) .ret s = kont P mu F r .ret s := nrfl' rfl
@[go_sem ↓] theorem kont_back_exit (G : St → Prop) (n : Nat) : kont P mu F (.back G :: r) (.exit n) s = kont P mu F r (.exit n) s := nrfl' rfl
@[go_sem ↓] theorem kont_ops_nil (dr : Bool) (all : List Oper) : kont P mu F (.ops dr all [] :: r) .normal s = kont P mu F r .normal s := nrfl' rfl

@[go_sem] theorem stK_some (v : PV) (d : Option Tmp) : stK P mu F (some v) d r s = kont P mu F r .normal (St.put s d v) := nrfl' rfl
@[go_sem] theorem hpK_some (v : PV) (h : Hp) (d : Option Tmp) : hpK P mu F (some (v, h)) d r s = kont P mu F r .normal (St.put { s with hp := h } d v) := nrfl' rfl
@[go_sem] theorem wrK_some (h : Hp) (d : Option Tmp) : wrK P mu F (some h) d r s = kont P mu F r .normal (St.put { s with hp := h } d .skip) := nrfl' rfl
@[go_sem] theorem cdK_true (a b : Code) : cdK P mu F (some true) a b r s = kont P mu F (.code a :: r) .normal s := nrfl' rfl
@[go_sem] theorem cdK_false (a b : Code) : cdK P mu F (some false) a b r s = kont P mu F (.code b :: r) .normal s := nrfl' rfl
@[go_sem] theorem gdK_tt (dr : Bool) (all : List Oper) (o : Oper) (os : List Oper) : gdK P mu F (some (some true)) true dr all o os r s = kont P mu F (.ops dr all (o :: os) :: r) .normal s := nrfl' rfl
@[go_sem] theorem gdK_ff (dr : Bool) (all : List Oper) (o : Oper) (os : List Oper) : gdK P mu F (some (some false)) false dr all o os r s = kont P mu F (.ops dr all (o :: os) :: r) .normal s := nrfl' rfl
@[go_sem] theorem gdK_tf (dr : Bool) (all : List Oper) (o : Oper) (os : List Oper) : gdK P mu F (some (some true)) false dr all o os r s = kont P mu F (.ops dr all os :: r) .normal (St.put s o.dst .skip) := nrfl' rfl
@[go_sem] theorem gdK_ft (dr : Bool) (all : List Oper) (o : Oper) (os : List Oper) : gdK P mu F (some (some false)) true dr all o os r s = kont P mu F (.ops dr all os :: r) .normal (St.put s o.dst .skip) := nrfl' rfl
@[go_sem] theorem gdK_skip (want dr : Bool) (all : List Oper) (o : Oper) (os : List Oper) : gdK P mu F (some none) want dr all o os r s = kont P mu F (.ops dr all os :: r) .normal (St.put s o.dst .skip) := nrfl' rfl

theorem cdK_split {x : Bool} {a b : Code} (ht : x = true → kont P mu F (.code a :: r) .normal s) (hf : x = false → kont P mu F (.code b :: r) .normal s) : cdK P mu F (some x) a b r s := by
  cases x
  · exact hf rfl
  · exact ht rfl
theorem gdK_splitT {x dr : Bool} {all : List Oper} {o : Oper} {os : List Oper} (ht : x = true → kont P mu F (.ops dr all (o :: os) :: r) .normal s) (hf : x = false → kont P mu F (.ops dr all os :: r) .normal (St.put s o.dst .skip)) :
    gdK P mu F (some (some x)) true dr all o os r s := by
  cases x
  · exact hf rfl
  · exact ht rfl
theorem gdK_splitF {x dr : Bool} {all : List Oper} {o : Oper} {os : List Oper} (hf : x = false → kont P mu F (.ops dr all (o :: os) :: r) .normal s) (ht : x = true → kont P mu F (.ops dr all os :: r) .normal (St.put s o.dst .skip)) :
    gdK P mu F (some (some x)) false dr all o os r s := by
  cases x
  · exact hf rfl
  · exact ht rfl

theorem cdK_splitN {x : Bool} {a b : Code} (ht : x = false → kont P mu F (.code a :: r) .normal s) (hf : x = true → kont P mu F (.code b :: r) .normal s) : cdK P mu F (some (!x)) a b r s := by
  cases x
  · exact ht rfl
  · exact hf rfl
theorem gdK_splitTN {x dr : Bool} {all : List Oper} {o : Oper} {os : List Oper} (ht : x = false → kont P mu F (.ops dr all (o :: os) :: r) .normal s) (hf : x = true → kont P mu F (.ops dr all os :: r) .normal (St.put s o.dst .skip)) :
    gdK P mu F (some (some (!x))) true dr all o os r s := by
  cases x
  · exact ht rfl
  · exact hf rfl
theorem gdK_splitFN {x dr : Bool} {all : List Oper} {o : Oper} {os : List Oper} (hf : x = true → kont P mu F (.ops dr all (o :: os) :: r) .normal s) (ht : x = false → kont P mu F (.ops dr all os :: r) .normal (St.put s o.dst .skip)) :
    gdK P mu F (some (some (!x))) false dr all o os r s := by
  cases x
  · exact ht rfl
  · exact hf rfl

/-- THE LOOP'S RULE. -/
theorem loop_mk {b : Code} (I : Nat → St → Prop) (n : Nat) (h0 : I n s)
    (hr : ∀ (n : Nat) (s' : St), I n s' → (∀ t, (writes b).contains t = false → s'.sl t = s.sl t) → ∀ G : St → Prop, (∀ m s'', m < n → I m s'' → G s'') → kont P mu F (.code b :: .back G :: r) .normal s') :
    kont P mu F (.code (.loop b) :: r) .normal s := by
  simp only [kont, Vm.wp]
  refine ⟨fun n s' => I n s' ∧ ∀ t, (writes b).contains t = false → s'.sl t = s.sl t, n, ⟨h0, fun _ _ => rfl⟩, fun n s' ⟨hI, hf⟩ => ?_⟩
  have := hr n s' hI hf (fun s'' => ∃ m, m < n ∧ I m s'') (fun m s'' h1 h2 => ⟨m, h1, h2⟩)
  simp only [kont] at this
  refine vwp_mono _ _ _ _ (fun e s'' ⟨h1, h2⟩ => ?_) (vwp_frame _ _ _ this)
  cases e with
  | normal =>
    obtain ⟨m, hlt, hm⟩ := h1
    refine ⟨m, hlt, hm, fun t ht => ?_⟩
    rw [h2 t (by simpa using ht), hf t ht]
  | exit n => exact h1
  | ret => exact h1

/-! ## Operations -/
section
variable {dr : Bool} {all os : List Oper} {d : Option Tmp} {ty : TypeId} {ps : String} {af : Array Edge}

theorem kont_op {o : Oper} (hc : callPart s.sl o = none) (hg : o.guard = none) (hn : nextPart s.sl o = none) : kont P mu F (.ops dr all (o :: os) :: r) .normal s = ((dr = true → bare mu o s.sl = true) ∧ hpK P mu F (evalOp P mu o s) o.dst (.ops dr all os :: r) s) := by
  simp only [kont, opsW, opG, guardRun, hg, opW, hc, plainW, hn, hpK]
  simp only [forall_const, reduceCtorEq, false_implies, and_true]
  rfl
theorem kont_opF {o : Oper} (hc : callPart s.sl o = none) (hg : o.guard = none) (hn : nextPart s.sl o = none := by rfl) : kont P mu F (.ops false all (o :: os) :: r) .normal s = hpK P mu F (evalOp P mu o s) o.dst (.ops false all os :: r) s := by
  rw [kont_op hc hg hn]; simp
theorem kont_opB {o : Oper} (hc : callPart s.sl o = none) (hg : o.guard = none) (hb : bare mu o s.sl = true) (hn : nextPart s.sl o = none := by rfl) : kont P mu F (.ops dr all (o :: os) :: r) .normal s = hpK P mu F (evalOp P mu o s) o.dst (.ops dr all os :: r) s := by
  rw [kont_op hc hg hn]; simp [hb]

@[go_sem ↓] theorem kont_guard (op : Op) (j : Nat) (want : Bool) : kont P mu F (.ops dr all (⟨d, op, ty, ps, af, some (j, want)⟩ :: os) :: r) .normal s = gdK P mu F (guardPV all s.sl j) want dr all ⟨d, op, ty, ps, af, none⟩ os r s := by
  simp only [kont, opsW, opG, guardRun, gdK]
  cases hg : guardPV all s.sl j with
  | none => rfl
  | some x =>
    cases x with
    | none => simp
    | some b =>
      by_cases hb : b = want
      · subst hb
        simp only [beq_self_eq_true, true_implies, Bool.true_eq_false, false_implies, and_true, if_true]
        exact propext Iff.rfl
      · have : (b == want) = false := by simpa using hb
        simp [this, hb]

theorem still_hpK (x : Option PV) : hpK P mu F (still x s.hp) d r s = stK P mu F x d r s := by
  cases x <;> rfl

@[go_sem ↓] theorem kont_move (x : Operand) : kont P mu F (.ops dr all (⟨d, .move x, ty, ps, af, none⟩ :: os) :: r) .normal s = stK P mu F (some (ev s.sl x)) d (.ops dr all os :: r) s := by rw [kont_opB rfl rfl rfl]; rfl
@[go_sem ↓] theorem kont_assign (x : Operand) : kont P mu F (.ops dr all (⟨d, .assign x, ty, ps, af, none⟩ :: os) :: r) .normal s = stK P mu F (some (ev s.sl x)) d (.ops dr all os :: r) s := by rw [kont_opB rfl rfl rfl]; rfl
def pickPV (c : Option Bool) (a b : PV) : Option PV := match c with | some c => some (if c then a else b) | none => none
@[go_sem] theorem pickPV_true (a b : PV) : pickPV (some true) a b = some a := nrfl rfl
@[go_sem] theorem pickPV_false (a b : PV) : pickPV (some false) a b = some b := nrfl rfl
@[go_sem] theorem pickPV_bool (c x y : Bool) : pickPV (some c) (.t (.bool x)) (.t (.bool y)) = some (.t (.bool (if c then x else y))) := by cases c <;> rfl
@[go_sem ↓] theorem kont_pick (c a b : Operand) : kont P mu F (.ops dr all (⟨d, .pick c a b, ty, ps, af, none⟩ :: os) :: r) .normal s = stK P mu F (pickPV (boolOf (ev s.sl c)) (ev s.sl a) (ev s.sl b)) d (.ops dr all os :: r) s := by
  rw [kont_opB rfl rfl rfl]; simp only [evalOp]; cases boolOf (ev s.sl c) <;> rfl
@[go_sem ↓] theorem kont_build (t : TypeId) (parts : Array (Nat × Operand)) : kont P mu F (.ops dr all (⟨d, .build t parts, ty, ps, af, none⟩ :: os) :: r) .normal s = stK P mu F (buildPV P t (parts.toList.map fun p => (p.1, ev s.sl p.2))) d (.ops dr all os :: r) s := by
  rw [kont_opB rfl rfl rfl]; exact still_hpK _
@[go_sem ↓] theorem kont_unOp (op : UnOp) (t : TypeId) (x : Operand) : kont P mu F (.ops dr all (⟨d, .unOp op t x, ty, ps, af, none⟩ :: os) :: r) .normal s = stK P mu F (unPV op (ev s.sl x)) d (.ops dr all os :: r) s := by
  rw [kont_opB rfl rfl rfl]; exact still_hpK _
@[go_sem ↓] theorem kont_convert (a b : TypeId) (x : Operand) : kont P mu F (.ops dr all (⟨d, .convert a b x, ty, ps, af, none⟩ :: os) :: r) .normal s = stK P mu F (convPV P b a (ev s.sl x)) d (.ops dr all os :: r) s := by
  rw [kont_opB rfl rfl rfl]; exact still_hpK _
@[go_sem ↓] theorem kont_field (t : TypeId) (x : Operand) (i : Nat) : kont P mu F (.ops dr all (⟨d, .field t x i, ty, ps, af, none⟩ :: os) :: r) .normal s = stK P mu F (fieldPV P t i (ev s.sl x)) d (.ops dr all os :: r) s := by
  rw [kont_opB rfl rfl rfl]; exact still_hpK _
@[go_sem ↓] theorem kont_index (t : TypeId) (x i : Operand) : kont P mu F (.ops dr all (⟨d, .index t x i, ty, ps, af, none⟩ :: os) :: r) .normal s = stK P mu F (indexPV P t (ev s.sl x) (ev s.sl i)) d (.ops dr all os :: r) s := by
  rw [kont_opB rfl rfl rfl]; exact still_hpK _
def extractPV (x : PV) (i : Nat) : Option PV := match x with
  | .t (.tup l) => (match l[i]? with | some y => some (.t y) | none => none)
  | .tup l => l[i]?
  | _ => none
@[go_sem ↓] theorem kont_extract (x : Operand) (i : Nat) : kont P mu F (.ops dr all (⟨d, .extract x i, ty, ps, af, none⟩ :: os) :: r) .normal s = stK P mu F (extractPV (ev s.sl x) i) d (.ops dr all os :: r) s := by
  rw [kont_opB rfl rfl rfl]
  simp only [evalOp, extractPV]
  generalize ev s.sl x = u
  cases u with
  | t y =>
    cases y with
    | tup l => simp only; cases l[i]? <;> rfl
    | _ => rfl
  | tup l => simp only; cases l[i]? <;> rfl
  | _ => rfl
@[go_sem ↓] theorem kont_makeFunc (f : FuncId) (caps : Array Operand) : kont P mu F (.ops dr all (⟨d, .makeFunc (.func f) #[] caps, ty, ps, af, none⟩ :: os) :: r) .normal s = stK P mu F (some (mkFn f (evs s.sl caps.toList))) d (.ops dr all os :: r) s := by
  rw [kont_opB rfl rfl rfl]; rfl
@[go_sem ↓] theorem kont_box (t : TypeId) (x : Operand) : kont P mu F (.ops dr all (⟨d, .box t x, ty, ps, af, none⟩ :: os) :: r) .normal s = hpK P mu F (newVarPV P mu d t (ev s.sl x).cells s.hp) d (.ops dr all os :: r) s := by rw [kont_opB rfl rfl rfl]; rfl
def allocPV (z : Option (List Tr)) (P : Program) (mu : Nat → Bool) (d : Option Tmp) (t : TypeId) (h : Hp) : Option (PV × Hp) := match z with | some z => newVarPV P mu d t (z.map .t) h | none => none
@[go_sem] theorem allocPV_some (z : List Tr) (t : TypeId) (h : Hp) : allocPV (some z) P mu d t h = newVarPV P mu d t (z.map .t) h := nrfl rfl
@[go_sem ↓] theorem kont_alloc (t : TypeId) : kont P mu F (.ops dr all (⟨d, .alloc t, ty, ps, af, none⟩ :: os) :: r) .normal s = hpK P mu F (allocPV (zeroB P t) P mu d t s.hp) d (.ops dr all os :: r) s := by rw [kont_opB rfl rfl rfl]; rfl
@[go_sem ↓] theorem kont_buildSlice (t : TypeId) (len : Nat) (parts : Array (Nat × Operand)) : kont P mu F (.ops dr all (⟨d, .buildSlice t len parts, ty, ps, af, none⟩ :: os) :: r) .normal s = hpK P mu F (buildSlicePV P mu d t len (parts.toList.map fun p => (p.1, ev s.sl p.2)) s.hp) d (.ops dr all os :: r) s := by rw [kont_opB rfl rfl rfl]; rfl
@[go_sem ↓] theorem kont_makeSlice (t : TypeId) (n m : Operand) : kont P mu F (.ops dr all (⟨d, .makeSlice t n m, ty, ps, af, none⟩ :: os) :: r) .normal s = hpK P mu F (makeSlicePV P mu d t (ev s.sl n) (ev s.sl m) s.hp) d (.ops dr all os :: r) s := by rw [kont_opB rfl rfl rfl]; rfl
@[go_sem ↓] theorem kont_slice (t : TypeId) (x : Operand) (lo hi : Option Operand) : kont P mu F (.ops false all (⟨d, .slice t x lo hi none, ty, ps, af, none⟩ :: os) :: r) .normal s = hpK P mu F (slicePV P t (ev s.sl x) (lo.map (ev s.sl)) (hi.map (ev s.sl)) s.hp) d (.ops false all os :: r) s := by rw [kont_opF rfl rfl]; rfl
-- what is bare only by its operands: 'false' regions outright; in drawn ones the condition stays
/-- the condition of a drawn region -/
def drK (b : Bool) (X : Prop) : Prop := b = true ∧ X
@[go_sem] theorem drK_true (X : Prop) : drK true X = X := by simp [drK]
@[go_sem ↓] theorem kont_load (t : TypeId) (x : Operand) : kont P mu F (.ops false all (⟨d, .load t x, ty, ps, af, none⟩ :: os) :: r) .normal s = stK P mu F (loadPV P t (ev s.sl x) s.hp) d (.ops false all os :: r) s := by rw [kont_opF rfl rfl]; exact still_hpK _
@[go_sem ↓] theorem kont_fieldAddr (t : TypeId) (x : Operand) (i : Nat) : kont P mu F (.ops false all (⟨d, .fieldAddr t x i, ty, ps, af, none⟩ :: os) :: r) .normal s = stK P mu F (fieldAddrPV P t i (ev s.sl x) s.hp) d (.ops false all os :: r) s := by rw [kont_opF rfl rfl]; exact still_hpK _
@[go_sem ↓] theorem kont_indexAddr (t : TypeId) (x i : Operand) : kont P mu F (.ops false all (⟨d, .indexAddr t x i, ty, ps, af, none⟩ :: os) :: r) .normal s = stK P mu F (indexAddrPV P t (ev s.sl x) (ev s.sl i) s.hp) d (.ops false all os :: r) s := by rw [kont_opF rfl rfl]; exact still_hpK _
@[go_sem ↓] theorem kont_binOp (op : BinOp) (t t' : TypeId) (x y : Operand) : kont P mu F (.ops false all (⟨d, .binOp op t x y t', ty, ps, af, none⟩ :: os) :: r) .normal s = stK P mu F (binPV P s.hp op t (ev s.sl x) (ev s.sl y)) d (.ops false all os :: r) s := by rw [kont_opF rfl rfl]; exact still_hpK _
def nilCheckPV (h : Hp) (x : PV) : Option PV := match x with | .ro cs => some (.ro cs) | .ad id n off => if valid h id n then some (.ad id n off) else none | _ => none
theorem nilCheck_eval (x : Operand) : evalOp P mu ⟨d, .nilCheck x, ty, ps, af, none⟩ s = still (nilCheckPV s.hp (ev s.sl x)) s.hp := by
  simp only [evalOp, nilCheckPV]
  split
  · rename_i h; rw [h]; rfl
  · rename_i h; rw [h]; simp only; split <;> rfl
  · rename_i h1 h2
    split
    · rename_i h; exact absurd h (h1 _)
    · rename_i h; exact absurd h (h2 _ _ _)
    · rfl
@[go_sem ↓] theorem kont_nilCheck (x : Operand) : kont P mu F (.ops false all (⟨d, .nilCheck x, ty, ps, af, none⟩ :: os) :: r) .normal s = stK P mu F (nilCheckPV s.hp (ev s.sl x)) d (.ops false all os :: r) s := by rw [kont_opF rfl rfl, nilCheck_eval]; exact still_hpK _
theorem kont_drawn {o : Oper} (hc : callPart s.sl o = none) (hg : o.guard = none) (hn : nextPart s.sl o = none := by rfl) : kont P mu F (.ops true all (o :: os) :: r) .normal s = drK (bare mu o s.sl) (hpK P mu F (evalOp P mu o s) o.dst (.ops true all os :: r) s) := by
  rw [kont_op hc hg hn]; simp [drK]
@[go_sem ↓] theorem kont_store (t : TypeId) (a x : Operand) : kont P mu F (.ops false all (⟨d, .store t a x, ty, ps, af, none⟩ :: os) :: r) .normal s = wrK P mu F (storePV P t (ev s.sl a) (ev s.sl x) s.hp) d (.ops false all os :: r) s := by
  rw [kont_opF rfl rfl]; simp only [evalOp]; cases storePV P t (ev s.sl a) (ev s.sl x) s.hp <;> rfl
@[go_sem ↓] theorem kont_storeD (t : TypeId) (a x : Operand) : kont P mu F (.ops true all (⟨d, .store t a x, ty, ps, af, none⟩ :: os) :: r) .normal s = drK (homedX mu a s.sl) (wrK P mu F (storePV P t (ev s.sl a) (ev s.sl x) s.hp) d (.ops true all os :: r) s) := by
  rw [kont_drawn rfl rfl]
  have e : bare mu ⟨d, .store t a x, ty, ps, af, none⟩ s.sl = homedX mu a s.sl := by
    show (homedX mu a s.sl && true) = _
    rw [Bool.and_true]
  rw [e]
  refine congrArg _ ?_
  simp only [evalOp]; cases storePV P t (ev s.sl a) (ev s.sl x) s.hp <;> rfl
@[go_sem ↓] theorem kont_loadD (t : TypeId) (x : Operand) : kont P mu F (.ops true all (⟨d, .load t x, ty, ps, af, none⟩ :: os) :: r) .normal s = drK (homedX mu x s.sl && (outer mu x || !(ev s.sl x).isRef)) (stK P mu F (loadPV P t (ev s.sl x) s.hp) d (.ops true all os :: r) s) := by rw [kont_drawn rfl rfl]; exact congrArg _ (still_hpK _)
@[go_sem ↓] theorem kont_fieldAddrD (t : TypeId) (x : Operand) (i : Nat) : kont P mu F (.ops true all (⟨d, .fieldAddr t x i, ty, ps, af, none⟩ :: os) :: r) .normal s = drK (outer mu x || !(ev s.sl x).isRef) (stK P mu F (fieldAddrPV P t i (ev s.sl x) s.hp) d (.ops true all os :: r) s) := by rw [kont_drawn rfl rfl]; exact congrArg _ (still_hpK _)
@[go_sem ↓] theorem kont_indexAddrD (t : TypeId) (x i : Operand) : kont P mu F (.ops true all (⟨d, .indexAddr t x i, ty, ps, af, none⟩ :: os) :: r) .normal s = drK (outer mu x || !(ev s.sl x).isRef) (stK P mu F (indexAddrPV P t (ev s.sl x) (ev s.sl i) s.hp) d (.ops true all os :: r) s) := by rw [kont_drawn rfl rfl]; exact congrArg _ (still_hpK _)
@[go_sem ↓] theorem kont_binOpD (op : BinOp) (t t' : TypeId) (x y : Operand) : kont P mu F (.ops true all (⟨d, .binOp op t x y t', ty, ps, af, none⟩ :: os) :: r) .normal s = drK (outer mu x || outer mu y || (!(ev s.sl x).isRef && !(ev s.sl y).isRef)) (stK P mu F (binPV P s.hp op t (ev s.sl x) (ev s.sl y)) d (.ops true all os :: r) s) := by rw [kont_drawn rfl rfl]; exact congrArg _ (still_hpK _)
@[go_sem ↓] theorem kont_nilCheckD (x : Operand) : kont P mu F (.ops true all (⟨d, .nilCheck x, ty, ps, af, none⟩ :: os) :: r) .normal s = drK (outer mu x || !(ev s.sl x).isRef) (stK P mu F (nilCheckPV s.hp (ev s.sl x)) d (.ops true all os :: r) s) := by rw [kont_drawn rfl rfl, nilCheck_eval]; exact congrArg _ (still_hpK _)
@[go_sem ↓] theorem kont_sliceD (t : TypeId) (x : Operand) (lo hi : Option Operand) : kont P mu F (.ops true all (⟨d, .slice t x lo hi none, ty, ps, af, none⟩ :: os) :: r) .normal s = drK (!treeX mu x || !(ev s.sl x).isRef) (hpK P mu F (slicePV P t (ev s.sl x) (lo.map (ev s.sl)) (hi.map (ev s.sl)) s.hp) d (.ops true all os :: r) s) := by rw [kont_drawn rfl rfl]; rfl

/-! calls -/
@[go_sem ↓] theorem kont_call (f : Operand) (args : Array Operand) (ats : Array TypeId) : kont P mu F (.ops dr all (⟨d, .call ⟨.value f, args, ats⟩, ty, ps, af, none⟩ :: os) :: r) .normal s = clK P mu F dr d (calleeOf s.sl f args.toList) (.ops dr all os :: r) s := by
  simp only [kont, opsW, opG, guardRun, opW, callPart, clK]
  cases calleeOf s.sl f args.toList with
  | none => simp
  | some q => simp [callW, kont]
end
end
end Go.Vm
