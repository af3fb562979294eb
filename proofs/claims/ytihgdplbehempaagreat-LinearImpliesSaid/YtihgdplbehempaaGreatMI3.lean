import Derived.Test.YtihgdplbehempaaGreatMI2
set_option linter.unusedSimpArgs false
set_option linter.unusedVariables false
section
attribute [go_sem_proc] Nat.reduceBEq Nat.reduceAdd Nat.reduceMul Nat.reduceSub Nat.reduceLeDiff Nat.reduceLT Nat.reduceEqDiff Int.reduceEq Int.reduceBEq Int.reduceBNe Int.reduceLT Int.reduceLE
namespace Go.Vm
open Go
section
variable {P : Program} {mu : Nat → Bool}
theorem ICall.mono {g : FuncId} {args : List PV} {h : Hp} {Q Q' : PV → Hp → Prop} (hi : ICall P g args h Q) (hq : ∀ v h', Q v h' → Q' v h') : ICall P g args h Q' :=
  ⟨hi.1, fun w A μ vs h1 h2 h3 => (hi.2 w A μ vs h1 h2 h3).mono fun e w' ⟨v, r, h', μ', e1, e2, e3⟩ => ⟨v, r, h', μ', e1, hq _ _ e2, e3⟩⟩
theorem opW_mono {dr : Bool} {o : Oper} {s : St} {K K' : St → Prop} (h : ∀ s', (∀ t, o.dst ≠ some t → s'.sl t = s.sl t) → K s' → K' s') (hw : opW P mu dr o s K) : opW P mu dr o s K' := by
  have put : ∀ (h2 : Hp) (v : PV), ∀ t, o.dst ≠ some t → (St.put { s with hp := h2 } o.dst v).sl t = s.sl t := by
    intro h2 v t ht
    cases hd : o.dst with
    | none => rfl
    | some d => exact upd_ne _ _ _ _ (by rw [hd] at ht; exact fun e => ht (by rw [e]))
  unfold opW at hw ⊢
  cases heq : callPart s.sl o with
  | none =>
    rw [heq] at hw
    replace hw : plainW P mu dr o s K := hw
    change plainW P mu dr o s K'
    unfold plainW at hw ⊢
    cases hnp : nextPart s.sl o with
    | some p =>
      rw [hnp] at hw
      simp only at hw ⊢
      unfold nextW at hw ⊢
      split
      · simp only at hw
        refine ⟨hw.1, hw.2.1, fun s' hs' => h _ ?_ (hw.2.2 s' hs')⟩
        obtain ⟨ob, m, last, fs, om, kv, _, _, _, _, hh⟩ := hs'
        rcases hh with ⟨_, rfl⟩ | ⟨i, _, rfl⟩
        · exact put _ _
        · exact put _ _
      · rename_i hne
        split at hw
        · exact absurd rfl (hne _)
        · exact hw
    | none =>
    rw [hnp] at hw
    refine ⟨hw.1, ?_⟩
    have hw := hw.2
    cases he : evalOp P mu o s with
    | none => rw [he] at hw; exact hw
    | some q => rw [he] at hw; exact h _ (put _ _) hw
  | some q =>
    rw [heq] at hw
    cases q with
    | none => exact hw
    | some q =>
      replace hw : callW P mu dr o s q.1 q.2 K := hw
      change callW P mu dr o s q.1 q.2 K'
      unfold callW at hw ⊢
      by_cases hdr : dr = true
      · rw [if_pos hdr] at hw ⊢
        rcases hw with ⟨ts, r, h1, h2, h3⟩ | ⟨h0, v, h', h1, h2⟩ | ⟨h0, ts, r, h1, h2, h4, h3⟩
        · exact .inl ⟨ts, r, h1, h2, h _ (put s.hp _) h3⟩
        · exact .inr (.inl ⟨h0, v, h', h1, h _ (put _ _) h2⟩)
        · exact .inr (.inr ⟨h0, ts, r, h1, h2, h4, h _ (put s.hp _) h3⟩)
      · rw [if_neg hdr] at hw ⊢
        rcases hw with ⟨ts, r, h1, h2, h3⟩ | hw
        · refine .inl ⟨ts, r, h1, h2, ?_⟩
          by_cases hsc : r.scalar = true
          · rw [if_pos hsc] at h3 ⊢; exact h _ (put s.hp _) h3
          · rw [if_neg hsc] at h3 ⊢; exact h _ (put _ _) h3
        · exact .inr (hw.mono fun v h' hq => h _ (put _ _) hq)
theorem opG_mono {dr : Bool} {all : List Oper} {o : Oper} {s : St} {K K' : St → Prop} (h : ∀ s', (∀ t, o.dst ≠ some t → s'.sl t = s.sl t) → K s' → K' s') (hw : opG P mu dr all o s K) : opG P mu dr all o s K' := by
  unfold opG at hw ⊢
  cases hr : guardRun all s.sl o with
  | none => rw [hr] at hw; exact hw
  | some r =>
    rw [hr] at hw
    refine ⟨fun e => opW_mono h (hw.1 e), fun e => h _ ?_ (hw.2 e)⟩
    intro t ht
    cases hd : o.dst with
    | none => rfl
    | some d => exact upd_ne _ _ _ _ (by rw [hd] at ht; exact fun e => ht (by rw [e]))
def wrOps : List Oper → List Nat
  | [] => []
  | o :: r => match o.dst with | some d => d :: wrOps r | none => wrOps r
def writes : Code → List Nat
  | .region _ ops _ => wrOps ops.toList
  | .seq a b => writes a ++ writes b
  | .cond _ a b => writes a ++ writes b
  | .block _ b => writes b
  | .loop b => writes b
  | _ => []
theorem opsW_frame {dr : Bool} {all : List Oper} : ∀ (l : List Oper) (s : St) (K : St → Prop), opsW P mu dr all l s K → opsW P mu dr all l s (fun s' => K s' ∧ ∀ t, t ∉ wrOps l → s'.sl t = s.sl t)
  | [], s, K, h => ⟨h, fun _ _ => rfl⟩
  | o :: r, s, K, h => by
    simp only [opsW] at h ⊢
    refine opG_mono (fun s' hs hk => ?_) h
    have := opsW_frame r s' K hk
    have mono : ∀ (l : List Oper) (s : St) (K K' : St → Prop), (∀ s', K s' → K' s') → opsW P mu dr all l s K → opsW P mu dr all l s K' := by
      intro l
      induction l with
      | nil => intro s K K' hk h; exact hk s h
      | cons o l ih => intro s K K' hk h; exact opG_mono (fun s' _ h => ih s' K K' hk h) h
    refine mono r s' _ _ (fun s'' ⟨h1, h2⟩ => ⟨h1, fun t ht => ?_⟩) this
    simp only [wrOps] at ht
    cases hd : o.dst with
    | none => rw [hd] at ht; rw [h2 t ht, hs t (by rw [hd]; simp)]
    | some d =>
      rw [hd] at ht
      simp only [List.mem_cons, not_or] at ht
      rw [h2 t ht.2, hs t (by rw [hd]; simp; exact fun e => ht.1 e.symm)]
theorem opsW_mono {dr : Bool} {all : List Oper} : ∀ (l : List Oper) (s : St) (K K' : St → Prop), (∀ s', K s' → K' s') → opsW P mu dr all l s K → opsW P mu dr all l s K'
  | [], s, _, _, hk, h => hk s h
  | _ :: l, _, K, K', hk, h => opG_mono (fun s' _ h => opsW_mono l s' K K' hk h) h
theorem vwp_mono : ∀ (c : Code) (s : St) (K K' : Ex → St → Prop), (∀ e s', K e s' → K' e s') → Vm.wp P mu c s K → Vm.wp P mu c s K' := by
  intro c
  induction c with
  | skip => intro s K K' h hw; exact h _ _ hw
  | ret => intro s K K' h hw; exact h _ _ hw
  | exit n => intro s K K' h hw; exact h _ _ hw
  | region id ops dr => intro s K K' h hw; exact opsW_mono _ _ _ _ (fun s' => h _ s') hw
  | seq a b iha ihb =>
    intro s K K' h hw
    simp only [Vm.wp] at hw ⊢
    refine iha _ _ _ (fun e s' => ?_) hw
    cases e with
    | normal => exact ihb _ _ _ h
    | exit n => exact h _ _
    | ret => exact h _ _
  | cond c a b iha ihb =>
    intro s K K' h hw
    simp only [Vm.wp] at hw ⊢
    split
    · rename_i x hx; rw [hx] at hw; exact ⟨fun e => iha _ _ _ h (hw.1 e), fun e => ihb _ _ _ h (hw.2 e)⟩
    · rename_i hx; rw [hx] at hw; exact hw
  | block id b ih =>
    intro s K K' h hw
    simp only [Vm.wp] at hw ⊢
    refine ih _ _ _ (fun e s' => ?_) hw
    cases e with
    | normal => exact h _ _
    | exit n => simp only; split <;> exact h _ _
    | ret => exact h _ _
  | loop b ih =>
    intro s K K' h hw
    simp only [Vm.wp] at hw ⊢
    obtain ⟨I, n, h0, hr⟩ := hw
    refine ⟨I, n, h0, fun n s hI => ih _ _ _ (fun e s' => ?_) (hr n s hI)⟩
    cases e with
    | normal => exact id
    | exit n => exact h _ _
    | ret => exact h _ _
  | _ => intro s K K' h hw; exact hw.elim
theorem vwp_frame : ∀ (c : Code) (s : St) (K : Ex → St → Prop), Vm.wp P mu c s K → Vm.wp P mu c s (fun e s' => K e s' ∧ ∀ t, t ∉ writes c → s'.sl t = s.sl t) := by
  intro c
  induction c with
  | skip => intro s K hw; exact ⟨hw, fun _ _ => rfl⟩
  | ret => intro s K hw; exact ⟨hw, fun _ _ => rfl⟩
  | exit n => intro s K hw; exact ⟨hw, fun _ _ => rfl⟩
  | region id ops dr => intro s K hw; exact opsW_frame _ _ _ hw
  | seq a b iha ihb =>
    intro s K hw
    simp only [Vm.wp] at hw ⊢
    refine vwp_mono _ _ _ _ (fun e s' ⟨h1, h2⟩ => ?_) (iha _ _ hw)
    cases e with
    | normal =>
      refine vwp_mono _ _ _ _ (fun e s'' ⟨h3, h4⟩ => ⟨h3, fun t ht => ?_⟩) (ihb _ _ h1)
      simp only [writes, List.mem_append, not_or] at ht
      rw [h4 t ht.2, h2 t ht.1]
    | exit n => exact ⟨h1, fun t ht => h2 t (by simp only [writes, List.mem_append, not_or] at ht; exact ht.1)⟩
    | ret => exact ⟨h1, fun t ht => h2 t (by simp only [writes, List.mem_append, not_or] at ht; exact ht.1)⟩
  | cond c a b iha ihb =>
    intro s K hw
    simp only [Vm.wp] at hw ⊢
    split
    · rename_i x hx
      rw [hx] at hw
      exact ⟨fun e => vwp_mono _ _ _ _ (fun e s'' ⟨h3, h4⟩ => ⟨h3, fun t ht => h4 t (by simp only [writes, List.mem_append, not_or] at ht; exact ht.1)⟩) (iha _ _ (hw.1 e)),
        fun e => vwp_mono _ _ _ _ (fun e s'' ⟨h3, h4⟩ => ⟨h3, fun t ht => h4 t (by simp only [writes, List.mem_append, not_or] at ht; exact ht.2)⟩) (ihb _ _ (hw.2 e))⟩
    · rename_i hx; rw [hx] at hw; exact hw
  | block id b ih =>
    intro s K hw
    simp only [Vm.wp] at hw ⊢
    refine vwp_mono _ _ _ _ (fun e s' ⟨h1, h2⟩ => ?_) (ih _ _ hw)
    cases e with
    | normal => exact ⟨h1, h2⟩
    | exit n => simp only at h1 ⊢; split <;> rename_i hn <;> simp only [hn, if_true, if_false] at h1 <;> exact ⟨h1, h2⟩
    | ret => exact ⟨h1, h2⟩
  | loop b ih =>
    intro s K hw
    simp only [Vm.wp] at hw ⊢
    obtain ⟨I, n, h0, hr⟩ := hw
    refine ⟨fun n s' => I n s' ∧ ∀ t, t ∉ writes b → s'.sl t = s.sl t, n, ⟨h0, fun _ _ => rfl⟩, fun n s' ⟨hI, hf⟩ => ?_⟩
    refine vwp_mono _ _ _ _ (fun e s'' ⟨h1, h2⟩ => ?_) (ih _ _ (hr n s' hI))
    have h3 : ∀ t, t ∉ writes b → s''.sl t = s.sl t := fun t ht => (h2 t ht).trans (hf t ht)
    cases e with
    | normal => obtain ⟨m, hlt, hm⟩ := h1; exact ⟨m, hlt, hm, h3⟩
    | exit n => exact ⟨h1, h3⟩
    | ret => exact ⟨h1, h3⟩
  | _ => intro s K hw; exact hw.elim
theorem nrfl {α : Type} {a b : α} (h : a = b) : a = b := h
theorem nrfl' {a b : Prop} (h : a = b) : a = b := h
inductive Item where
  | code (c : Code)
  | ops (dr : Bool) (all rest : List Oper)
  | blk (id : Nat)
  | back (G : St → Prop)
section
variable (P : Program) (mu : Nat → Bool) (F : Ex → St → Prop)
def kont : List Item → Ex → St → Prop
  | [], e, s => F e s
  | .code c :: r, e, s => match e with | .normal => Vm.wp P mu c s (kont r) | .exit n => kont r (.exit n) s | .ret => kont r .ret s
  | .ops dr all os :: r, e, s => match e with | .normal => opsW P mu dr all os s (kont r .normal) | .exit n => kont r (.exit n) s | .ret => kont r .ret s
  | .blk id :: r, e, s => match e with | .normal => kont r .normal s | .exit n => if n = id then kont r .normal s else kont r (.exit n) s | .ret => kont r .ret s
  | .back G :: r, e, s => match e with | .normal => G s | .exit n => kont r (.exit n) s | .ret => kont r .ret s
def stK (x : Option PV) (d : Option Tmp) (r : List Item) (s : St) : Prop := match x with | some v => kont P mu F r .normal (St.put s d v) | none => False
def hpK (x : Option (PV × Hp)) (d : Option Tmp) (r : List Item) (s : St) : Prop := match x with | some (v, h) => kont P mu F r .normal (St.put { s with hp := h } d v) | none => False
def wrK (x : Option Hp) (d : Option Tmp) (r : List Item) (s : St) : Prop := match x with | some h => kont P mu F r .normal (St.put { s with hp := h } d .skip) | none => False
def cdK (x : Option Bool) (a b : Code) (r : List Item) (s : St) : Prop := match x with | some true => kont P mu F (.code a :: r) .normal s | some false => kont P mu F (.code b :: r) .normal s | none => False
def gdK (x : Option (Option Bool)) (want dr : Bool) (all : List Oper) (o : Oper) (os : List Oper) (r : List Item) (s : St) : Prop := match x with
  | some (some b) => if b = want then kont P mu F (.ops dr all (o :: os) :: r) .normal s else kont P mu F (.ops dr all os :: r) .normal (St.put s o.dst .skip)
  | some none => kont P mu F (.ops dr all os :: r) .normal (St.put s o.dst .skip)
  | none => False
def clK (dr : Bool) (d : Option Tmp) (q : Option (FuncId × List PV)) (r : List Item) (s : St) : Prop := match q with
  | some (g, args) => callW P mu dr { dst := d, op := .move (.tmp 0), type := 0, pos := "", after := #[], guard := none } s g args (kont P mu F r .normal)
  | none => False
end
variable {F : Ex → St → Prop} {r : List Item} {s : St}
theorem kont_start {c : Code} : Vm.wp P mu c s F = kont P mu F [.code c] .normal s := by
  simp only [kont]
@[go_sem ↓] theorem kont_nil (e : Ex) : kont P mu F [] e s = F e s := nrfl' rfl
@[go_sem ↓] theorem kont_seq (a b : Code) : kont P mu F (.code (.seq a b) :: r) .normal s = kont P mu F (.code a :: .code b :: r) .normal s := by
  simp only [kont, Vm.wp]
  congr 1
@[go_sem ↓] theorem kont_skip : kont P mu F (.code .skip :: r) .normal s = kont P mu F r .normal s := nrfl' rfl
@[go_sem ↓] theorem kont_exit (n : Nat) : kont P mu F (.code (.exit n) :: r) .normal s = kont P mu F r (.exit n) s := nrfl' rfl
@[go_sem ↓] theorem kont_ret : kont P mu F (.code .ret :: r) .normal s = kont P mu F r .ret s := nrfl' rfl
@[go_sem ↓] theorem kont_region (id : Nat) (ops : Array Oper) (dr : Bool) : kont P mu F (.code (.region id ops dr) :: r) .normal s = kont P mu F (.ops dr ops.toList ops.toList :: r) .normal s := nrfl' rfl
@[go_sem ↓] theorem kont_block (id : Nat) (b : Code) : kont P mu F (.code (.block id b) :: r) .normal s = kont P mu F (.code b :: .blk id :: r) .normal s := by
  simp only [kont, Vm.wp]
  congr 1
@[go_sem ↓] theorem kont_cond (c : Operand) (a b : Code) : kont P mu F (.code (.cond c a b) :: r) .normal s = cdK P mu F (boolOf (ev s.sl c)) a b r s := by
  simp only [kont, Vm.wp, cdK]
  cases boolOf (ev s.sl c) with
  | none => rfl
  | some x => cases x <;> simp
@[go_sem ↓] theorem kont_code_exit (c : Code) (n : Nat) : kont P mu F (.code c :: r) (.exit n) s = kont P mu F r (.exit n) s := nrfl' rfl
@[go_sem ↓] theorem kont_code_ret (c : Code) : kont P mu F (.code c :: r) .ret s = kont P mu F r .ret s := nrfl' rfl
@[go_sem ↓] theorem kont_blk (id : Nat) : kont P mu F (.blk id :: r) .normal s = kont P mu F r .normal s := nrfl' rfl
@[go_sem ↓] theorem kont_blk_ret (id : Nat) : kont P mu F (.blk id :: r) .ret s = kont P mu F r .ret s := nrfl' rfl
@[go_sem ↓] theorem kont_blk_exit (id n : Nat) : kont P mu F (.blk id :: r) (.exit n) s = if n = id then kont P mu F r .normal s else kont P mu F r (.exit n) s := nrfl' rfl
@[go_sem ↓] theorem kont_back (G : St → Prop) : kont P mu F (.back G :: r) .normal s = G s := nrfl' rfl
@[go_sem ↓] theorem kont_back_ret (G : St → Prop) : kont P mu F (.back G :: r) .ret s = kont P mu F r .ret s := nrfl' rfl
@[go_sem ↓] theorem kont_back_exit (G : St → Prop) (n : Nat) : kont P mu F (.back G :: r) (.exit n) s = kont P mu F r (.exit n) s := nrfl' rfl
@[go_sem ↓] theorem kont_ops_nil (dr : Bool) (all : List Oper) : kont P mu F (.ops dr all [] :: r) .normal s = kont P mu F r .normal s := nrfl' rfl
@[go_sem] theorem stK_some (v : PV) (d : Option Tmp) : stK P mu F (some v) d r s = kont P mu F r .normal (St.put s d v) := nrfl' rfl
@[go_sem] theorem hpK_some (v : PV) (h : Hp) (d : Option Tmp) : hpK P mu F (some (v, h)) d r s = kont P mu F r .normal (St.put { s with hp := h } d v) := nrfl' rfl
@[go_sem] theorem wrK_some (h : Hp) (d : Option Tmp) : wrK P mu F (some h) d r s = kont P mu F r .normal (St.put { s with hp := h } d .skip) := nrfl' rfl
@[go_sem] theorem cdK_true (a b : Code) : cdK P mu F (some true) a b r s = kont P mu F (.code a :: r) .normal s := nrfl' rfl
@[go_sem] theorem cdK_false (a b : Code) : cdK P mu F (some false) a b r s = kont P mu F (.code b :: r) .normal s := nrfl' rfl
@[go_sem] theorem gdK_tt (dr : Bool) (all : List Oper) (o : Oper) (os : List Oper) : gdK P mu F (some (some true)) true dr all o os r s = kont P mu F (.ops dr all (o :: os) :: r) .normal s := nrfl' rfl
@[go_sem] theorem gdK_ff (dr : Bool) (all : List Oper) (o : Oper) (os : List Oper) : gdK P mu F (some (some false)) false dr all o os r s = kont P mu F (.ops dr all (o :: os) :: r) .normal s := nrfl' rfl
@[go_sem] theorem gdK_tf (dr : Bool) (all : List Oper) (o : Oper) (os : List Oper) : gdK P mu F (some (some true)) false dr all o os r s = kont P mu F (.ops dr all os :: r) .normal (St.put s o.dst .skip) := nrfl' rfl
@[go_sem] theorem gdK_ft (dr : Bool) (all : List Oper) (o : Oper) (os : List Oper) : gdK P mu F (some (some false)) true dr all o os r s = kont P mu F (.ops dr all os :: r) .normal (St.put s o.dst .skip) := nrfl' rfl
@[go_sem] theorem gdK_skip (want dr : Bool) (all : List Oper) (o : Oper) (os : List Oper) : gdK P mu F (some none) want dr all o os r s = kont P mu F (.ops dr all os :: r) .normal (St.put s o.dst .skip) := nrfl' rfl
theorem sD {x : Bool} {a b : Code} (ht : x = true → kont P mu F (.code a :: r) .normal s) (hf : x = false → kont P mu F (.code b :: r) .normal s) : cdK P mu F (some x) a b r s := by
  cases x
  · exact hf rfl
  · exact ht rfl
theorem sE {x dr : Bool} {all : List Oper} {o : Oper} {os : List Oper} (ht : x = true → kont P mu F (.ops dr all (o :: os) :: r) .normal s) (hf : x = false → kont P mu F (.ops dr all os :: r) .normal (St.put s o.dst .skip)) :
    gdK P mu F (some (some x)) true dr all o os r s := by
  cases x
  · exact hf rfl
  · exact ht rfl
theorem sF {x dr : Bool} {all : List Oper} {o : Oper} {os : List Oper} (hf : x = false → kont P mu F (.ops dr all (o :: os) :: r) .normal s) (ht : x = true → kont P mu F (.ops dr all os :: r) .normal (St.put s o.dst .skip)) :
    gdK P mu F (some (some x)) false dr all o os r s := by
  cases x
  · exact hf rfl
  · exact ht rfl
theorem sA {x : Bool} {a b : Code} (ht : x = false → kont P mu F (.code a :: r) .normal s) (hf : x = true → kont P mu F (.code b :: r) .normal s) : cdK P mu F (some (!x)) a b r s := by
  cases x
  · exact ht rfl
  · exact hf rfl
theorem sB {x dr : Bool} {all : List Oper} {o : Oper} {os : List Oper} (ht : x = false → kont P mu F (.ops dr all (o :: os) :: r) .normal s) (hf : x = true → kont P mu F (.ops dr all os :: r) .normal (St.put s o.dst .skip)) :
    gdK P mu F (some (some (!x))) true dr all o os r s := by
  cases x
  · exact ht rfl
  · exact hf rfl
theorem sC {x dr : Bool} {all : List Oper} {o : Oper} {os : List Oper} (hf : x = true → kont P mu F (.ops dr all (o :: os) :: r) .normal s) (ht : x = false → kont P mu F (.ops dr all os :: r) .normal (St.put s o.dst .skip)) :
    gdK P mu F (some (some (!x))) false dr all o os r s := by
  cases x
  · exact ht rfl
  · exact hf rfl
theorem loop_mk {b : Code} (I : Nat → St → Prop) (n : Nat) (h0 : I n s)
    (hr : ∀ (n : Nat) (s' : St), I n s' → (∀ t, (writes b).contains t = false → s'.sl t = s.sl t) → ∀ G : St → Prop, (∀ m s'', m < n → I m s'' → G s'') → kont P mu F (.code b :: .back G :: r) .normal s') :
    kont P mu F (.code (.loop b) :: r) .normal s := by
  simp only [kont, Vm.wp]
  refine ⟨fun n s' => I n s' ∧ ∀ t, (writes b).contains t = false → s'.sl t = s.sl t, n, ⟨h0, fun _ _ => rfl⟩, fun n s' ⟨hI, hf⟩ => ?_⟩
  have := hr n s' hI hf (fun s'' => ∃ m, m < n ∧ I m s'') (fun m s'' h1 h2 => ⟨m, h1, h2⟩)
  simp only [kont] at this
  refine vwp_mono _ _ _ _ (fun e s'' ⟨h1, h2⟩ => ?_) (vwp_frame _ _ _ this)
  cases e with
  | normal =>
    obtain ⟨m, hlt, hm⟩ := h1
    refine ⟨m, hlt, hm, fun t ht => ?_⟩
    rw [h2 t (by simpa using ht), hf t ht]
  | exit n => exact h1
  | ret => exact h1
section
variable {dr : Bool} {all os : List Oper} {d : Option Tmp} {ty : TypeId} {ps : String} {af : Array Edge}
theorem kont_op {o : Oper} (hc : callPart s.sl o = none) (hg : o.guard = none) (hn : nextPart s.sl o = none) : kont P mu F (.ops dr all (o :: os) :: r) .normal s = ((dr = true → bare mu o s.sl = true) ∧ hpK P mu F (evalOp P mu o s) o.dst (.ops dr all os :: r) s) := by
  simp only [kont, opsW, opG, guardRun, hg, opW, hc, plainW, hn, hpK]
  simp only [forall_const, reduceCtorEq, false_implies, and_true]
  rfl
theorem kont_opF {o : Oper} (hc : callPart s.sl o = none) (hg : o.guard = none) (hn : nextPart s.sl o = none := by rfl) : kont P mu F (.ops false all (o :: os) :: r) .normal s = hpK P mu F (evalOp P mu o s) o.dst (.ops false all os :: r) s := by
  rw [kont_op hc hg hn]; simp
theorem kont_opB {o : Oper} (hc : callPart s.sl o = none) (hg : o.guard = none) (hb : bare mu o s.sl = true) (hn : nextPart s.sl o = none := by rfl) : kont P mu F (.ops dr all (o :: os) :: r) .normal s = hpK P mu F (evalOp P mu o s) o.dst (.ops dr all os :: r) s := by
  rw [kont_op hc hg hn]; simp [hb]
@[go_sem ↓] theorem kont_guard (op : Op) (j : Nat) (want : Bool) : kont P mu F (.ops dr all (⟨d, op, ty, ps, af, some (j, want)⟩ :: os) :: r) .normal s = gdK P mu F (guardPV all s.sl j) want dr all ⟨d, op, ty, ps, af, none⟩ os r s := by
  simp only [kont, opsW, opG, guardRun, gdK]
  cases hg : guardPV all s.sl j with
  | none => rfl
  | some x =>
    cases x with
    | none => simp
    | some b =>
      by_cases hb : b = want
      · subst hb
        simp only [beq_self_eq_true, true_implies, Bool.true_eq_false, false_implies, and_true, if_true]
        exact propext Iff.rfl
      · have : (b == want) = false := by simpa using hb
        simp [this, hb]
theorem still_hpK (x : Option PV) : hpK P mu F (still x s.hp) d r s = stK P mu F x d r s := by
  cases x <;> rfl
@[go_sem ↓] theorem kont_move (x : Operand) : kont P mu F (.ops dr all (⟨d, .move x, ty, ps, af, none⟩ :: os) :: r) .normal s = stK P mu F (some (ev s.sl x)) d (.ops dr all os :: r) s := by rw [kont_opB rfl rfl rfl]; rfl
@[go_sem ↓] theorem kont_assign (x : Operand) : kont P mu F (.ops dr all (⟨d, .assign x, ty, ps, af, none⟩ :: os) :: r) .normal s = stK P mu F (some (ev s.sl x)) d (.ops dr all os :: r) s := by rw [kont_opB rfl rfl rfl]; rfl
def pickPV (c : Option Bool) (a b : PV) : Option PV := match c with | some c => some (if c then a else b) | none => none
@[go_sem] theorem pickPV_true (a b : PV) : pickPV (some true) a b = some a := nrfl rfl
@[go_sem] theorem pickPV_false (a b : PV) : pickPV (some false) a b = some b := nrfl rfl
@[go_sem] theorem pickPV_bool (c x y : Bool) : pickPV (some c) (.t (.bool x)) (.t (.bool y)) = some (.t (.bool (if c then x else y))) := by cases c <;> rfl
@[go_sem ↓] theorem kont_pick (c a b : Operand) : kont P mu F (.ops dr all (⟨d, .pick c a b, ty, ps, af, none⟩ :: os) :: r) .normal s = stK P mu F (pickPV (boolOf (ev s.sl c)) (ev s.sl a) (ev s.sl b)) d (.ops dr all os :: r) s := by
  rw [kont_opB rfl rfl rfl]; simp only [evalOp]; cases boolOf (ev s.sl c) <;> rfl
@[go_sem ↓] theorem kont_build (t : TypeId) (parts : Array (Nat × Operand)) : kont P mu F (.ops dr all (⟨d, .build t parts, ty, ps, af, none⟩ :: os) :: r) .normal s = stK P mu F (buildPV P t (parts.toList.map fun p => (p.1, ev s.sl p.2))) d (.ops dr all os :: r) s := by
  rw [kont_opB rfl rfl rfl]; exact still_hpK _
@[go_sem ↓] theorem kont_unOp (op : UnOp) (t : TypeId) (x : Operand) : kont P mu F (.ops dr all (⟨d, .unOp op t x, ty, ps, af, none⟩ :: os) :: r) .normal s = stK P mu F (unPV op (ev s.sl x)) d (.ops dr all os :: r) s := by
  rw [kont_opB rfl rfl rfl]; exact still_hpK _
@[go_sem ↓] theorem kont_convert (a b : TypeId) (x : Operand) : kont P mu F (.ops dr all (⟨d, .convert a b x, ty, ps, af, none⟩ :: os) :: r) .normal s = stK P mu F (convPV P b a (ev s.sl x)) d (.ops dr all os :: r) s := by
  rw [kont_opB rfl rfl rfl]; exact still_hpK _
@[go_sem ↓] theorem kont_field (t : TypeId) (x : Operand) (i : Nat) : kont P mu F (.ops dr all (⟨d, .field t x i, ty, ps, af, none⟩ :: os) :: r) .normal s = stK P mu F (fieldPV P t i (ev s.sl x)) d (.ops dr all os :: r) s := by
  rw [kont_opB rfl rfl rfl]; exact still_hpK _
def extractPV (x : PV) (i : Nat) : Option PV := match x with
  | .t (.tup l) => (match l[i]? with | some y => some (.t y) | none => none)
  | .tup l => l[i]?
  | _ => none
@[go_sem ↓] theorem kont_extract (x : Operand) (i : Nat) : kont P mu F (.ops dr all (⟨d, .extract x i, ty, ps, af, none⟩ :: os) :: r) .normal s = stK P mu F (extractPV (ev s.sl x) i) d (.ops dr all os :: r) s := by
  rw [kont_opB rfl rfl rfl]
  simp only [evalOp, extractPV]
  generalize ev s.sl x = u
  cases u with
  | t y =>
    cases y with
    | tup l => simp only; cases l[i]? <;> rfl
    | _ => rfl
  | tup l => simp only; cases l[i]? <;> rfl
  | _ => rfl
@[go_sem ↓] theorem kont_makeFunc (f : FuncId) (caps : Array Operand) : kont P mu F (.ops dr all (⟨d, .makeFunc (.func f) #[] caps, ty, ps, af, none⟩ :: os) :: r) .normal s = stK P mu F (some (mkFn f (evs s.sl caps.toList))) d (.ops dr all os :: r) s := by
  rw [kont_opB rfl rfl rfl]; rfl
@[go_sem ↓] theorem kont_box (t : TypeId) (x : Operand) : kont P mu F (.ops dr all (⟨d, .box t x, ty, ps, af, none⟩ :: os) :: r) .normal s = hpK P mu F (newVarPV P mu d t (ev s.sl x).cells s.hp) d (.ops dr all os :: r) s := by rw [kont_opB rfl rfl rfl]; rfl
def allocPV (z : Option (List Tr)) (P : Program) (mu : Nat → Bool) (d : Option Tmp) (t : TypeId) (h : Hp) : Option (PV × Hp) := match z with | some z => newVarPV P mu d t (z.map .t) h | none => none
@[go_sem] theorem allocPV_some (z : List Tr) (t : TypeId) (h : Hp) : allocPV (some z) P mu d t h = newVarPV P mu d t (z.map .t) h := nrfl rfl
@[go_sem ↓] theorem kont_alloc (t : TypeId) : kont P mu F (.ops dr all (⟨d, .alloc t, ty, ps, af, none⟩ :: os) :: r) .normal s = hpK P mu F (allocPV (zeroB P t) P mu d t s.hp) d (.ops dr all os :: r) s := by rw [kont_opB rfl rfl rfl]; rfl
@[go_sem ↓] theorem kont_buildSlice (t : TypeId) (len : Nat) (parts : Array (Nat × Operand)) : kont P mu F (.ops dr all (⟨d, .buildSlice t len parts, ty, ps, af, none⟩ :: os) :: r) .normal s = hpK P mu F (buildSlicePV P mu d t len (parts.toList.map fun p => (p.1, ev s.sl p.2)) s.hp) d (.ops dr all os :: r) s := by rw [kont_opB rfl rfl rfl]; rfl
@[go_sem ↓] theorem kont_makeSlice (t : TypeId) (n m : Operand) : kont P mu F (.ops dr all (⟨d, .makeSlice t n m, ty, ps, af, none⟩ :: os) :: r) .normal s = hpK P mu F (makeSlicePV P mu d t (ev s.sl n) (ev s.sl m) s.hp) d (.ops dr all os :: r) s := by rw [kont_opB rfl rfl rfl]; rfl
@[go_sem ↓] theorem kont_slice (t : TypeId) (x : Operand) (lo hi : Option Operand) : kont P mu F (.ops false all (⟨d, .slice t x lo hi none, ty, ps, af, none⟩ :: os) :: r) .normal s = hpK P mu F (slicePV P t (ev s.sl x) (lo.map (ev s.sl)) (hi.map (ev s.sl)) s.hp) d (.ops false all os :: r) s := by rw [kont_opF rfl rfl]; rfl
-- what is bare only by its operands: 'false' regions outright; in drawn ones the condition stays
@[go_sem] theorem awX_no (p : PV) (h : mu 3999999 = false) : awX mu p = true := by unfold awX; rw [h]; rfl
def drK (b : Bool) (X : Prop) : Prop := b = true ∧ X
@[go_sem] theorem drK_true (X : Prop) : drK true X = X := by simp [drK]
@[go_sem ↓] theorem kont_load (t : TypeId) (x : Operand) : kont P mu F (.ops false all (⟨d, .load t x, ty, ps, af, none⟩ :: os) :: r) .normal s = stK P mu F (loadPV P t (ev s.sl x) s.hp) d (.ops false all os :: r) s := by rw [kont_opF rfl rfl]; exact still_hpK _
@[go_sem ↓] theorem kont_fieldAddr (t : TypeId) (x : Operand) (i : Nat) : kont P mu F (.ops false all (⟨d, .fieldAddr t x i, ty, ps, af, none⟩ :: os) :: r) .normal s = stK P mu F (fieldAddrPV P t i (ev s.sl x) s.hp) d (.ops false all os :: r) s := by rw [kont_opF rfl rfl]; exact still_hpK _
@[go_sem ↓] theorem kont_indexAddr (t : TypeId) (x i : Operand) : kont P mu F (.ops false all (⟨d, .indexAddr t x i, ty, ps, af, none⟩ :: os) :: r) .normal s = stK P mu F (indexAddrPV P t (ev s.sl x) (ev s.sl i) s.hp) d (.ops false all os :: r) s := by rw [kont_opF rfl rfl]; exact still_hpK _
@[go_sem ↓] theorem kont_binOp (op : BinOp) (t t' : TypeId) (x y : Operand) : kont P mu F (.ops false all (⟨d, .binOp op t x y t', ty, ps, af, none⟩ :: os) :: r) .normal s = stK P mu F (binPV P s.hp op t (ev s.sl x) (ev s.sl y)) d (.ops false all os :: r) s := by rw [kont_opF rfl rfl]; exact still_hpK _
def nilCheckPV (h : Hp) (x : PV) : Option PV := match x with | .ro cs => some (.ro cs) | .ad id n off => if valid h id n then some (.ad id n off) else none | _ => none
theorem nilCheck_eval (x : Operand) : evalOp P mu ⟨d, .nilCheck x, ty, ps, af, none⟩ s = still (nilCheckPV s.hp (ev s.sl x)) s.hp := by
  simp only [evalOp, nilCheckPV]
  split
  · rename_i h; rw [h]; rfl
  · rename_i h; rw [h]; simp only; split <;> rfl
  · rename_i h1 h2
    split
    · rename_i h; exact absurd h (h1 _)
    · rename_i h; exact absurd h (h2 _ _ _)
    · rfl
@[go_sem ↓] theorem kont_nilCheck (x : Operand) : kont P mu F (.ops false all (⟨d, .nilCheck x, ty, ps, af, none⟩ :: os) :: r) .normal s = stK P mu F (nilCheckPV s.hp (ev s.sl x)) d (.ops false all os :: r) s := by rw [kont_opF rfl rfl, nilCheck_eval]; exact still_hpK _
theorem kont_drawn {o : Oper} (hc : callPart s.sl o = none) (hg : o.guard = none) (hn : nextPart s.sl o = none := by rfl) : kont P mu F (.ops true all (o :: os) :: r) .normal s = drK (bare mu o s.sl) (hpK P mu F (evalOp P mu o s) o.dst (.ops true all os :: r) s) := by
  rw [kont_op hc hg hn]; simp [drK]
@[go_sem ↓] theorem kont_store (t : TypeId) (a x : Operand) : kont P mu F (.ops false all (⟨d, .store t a x, ty, ps, af, none⟩ :: os) :: r) .normal s = wrK P mu F (storePV P t (ev s.sl a) (ev s.sl x) s.hp) d (.ops false all os :: r) s := by
  rw [kont_opF rfl rfl]; simp only [evalOp]; cases storePV P t (ev s.sl a) (ev s.sl x) s.hp <;> rfl
@[go_sem ↓] theorem kont_storeD (t : TypeId) (a x : Operand) : kont P mu F (.ops true all (⟨d, .store t a x, ty, ps, af, none⟩ :: os) :: r) .normal s = drK (homedX mu a s.sl) (wrK P mu F (storePV P t (ev s.sl a) (ev s.sl x) s.hp) d (.ops true all os :: r) s) := by
  rw [kont_drawn rfl rfl]
  have e : bare mu ⟨d, .store t a x, ty, ps, af, none⟩ s.sl = homedX mu a s.sl := by
    show (true && homedX mu a s.sl && true) = _
    rw [Bool.and_true, Bool.true_and]
  rw [e]
  refine congrArg _ ?_
  simp only [evalOp]; cases storePV P t (ev s.sl a) (ev s.sl x) s.hp <;> rfl
@[go_sem ↓] theorem kont_loadD (t : TypeId) (x : Operand) : kont P mu F (.ops true all (⟨d, .load t x, ty, ps, af, none⟩ :: os) :: r) .normal s = drK ((nearM mu x || awX mu (ev s.sl x)) && homedX mu x s.sl && (outer mu x || !(ev s.sl x).isRef)) (stK P mu F (loadPV P t (ev s.sl x) s.hp) d (.ops true all os :: r) s) := by rw [kont_drawn rfl rfl]; exact congrArg _ (still_hpK _)
@[go_sem ↓] theorem kont_fieldAddrD (t : TypeId) (x : Operand) (i : Nat) : kont P mu F (.ops true all (⟨d, .fieldAddr t x i, ty, ps, af, none⟩ :: os) :: r) .normal s = drK ((nearM mu x || awX mu (ev s.sl x)) && true && (outer mu x || !(ev s.sl x).isRef)) (stK P mu F (fieldAddrPV P t i (ev s.sl x) s.hp) d (.ops true all os :: r) s) := by rw [kont_drawn rfl rfl]; exact congrArg _ (still_hpK _)
@[go_sem ↓] theorem kont_indexAddrD (t : TypeId) (x i : Operand) : kont P mu F (.ops true all (⟨d, .indexAddr t x i, ty, ps, af, none⟩ :: os) :: r) .normal s = drK ((nearM mu x || awX mu (ev s.sl x)) && true && (outer mu x || !(ev s.sl x).isRef)) (stK P mu F (indexAddrPV P t (ev s.sl x) (ev s.sl i) s.hp) d (.ops true all os :: r) s) := by rw [kont_drawn rfl rfl]; exact congrArg _ (still_hpK _)
@[go_sem ↓] theorem kont_binOpD (op : BinOp) (t t' : TypeId) (x y : Operand) : kont P mu F (.ops true all (⟨d, .binOp op t x y t', ty, ps, af, none⟩ :: os) :: r) .normal s = drK (outer mu x || outer mu y || (!(ev s.sl x).isRef && !(ev s.sl y).isRef)) (stK P mu F (binPV P s.hp op t (ev s.sl x) (ev s.sl y)) d (.ops true all os :: r) s) := by rw [kont_drawn rfl rfl]; exact congrArg _ (still_hpK _)
@[go_sem ↓] theorem kont_nilCheckD (x : Operand) : kont P mu F (.ops true all (⟨d, .nilCheck x, ty, ps, af, none⟩ :: os) :: r) .normal s = drK ((nearM mu x || awX mu (ev s.sl x)) && true && (outer mu x || !(ev s.sl x).isRef)) (stK P mu F (nilCheckPV s.hp (ev s.sl x)) d (.ops true all os :: r) s) := by rw [kont_drawn rfl rfl, nilCheck_eval]; exact congrArg _ (still_hpK _)
@[go_sem ↓] theorem kont_sliceD (t : TypeId) (x : Operand) (lo hi : Option Operand) : kont P mu F (.ops true all (⟨d, .slice t x lo hi none, ty, ps, af, none⟩ :: os) :: r) .normal s = drK (!treeX mu x || !(ev s.sl x).isRef) (hpK P mu F (slicePV P t (ev s.sl x) (lo.map (ev s.sl)) (hi.map (ev s.sl)) s.hp) d (.ops true all os :: r) s) := by rw [kont_drawn rfl rfl]; rfl
@[go_sem ↓] theorem kont_call (f : Operand) (args : Array Operand) (ats : Array TypeId) : kont P mu F (.ops dr all (⟨d, .call ⟨.value f, args, ats⟩, ty, ps, af, none⟩ :: os) :: r) .normal s = clK P mu F dr d (calleeOf s.sl f args.toList) (.ops dr all os :: r) s := by
  simp only [kont, opsW, opG, guardRun, opW, callPart, clK]
  cases calleeOf s.sl f args.toList with
  | none => simp
  | some q => simp [callW, kont]
end
end
end Go.Vm
end
section
namespace Go.Vm
open Go
section
variable {P : Program} {mu : Nat → Bool} {F : Ex → St → Prop} {r : List Item} {s : St} {h : Hp}
attribute [go_sem] Option.map_some Option.map_none List.map_cons List.map_nil List.length_map List.length_cons List.length_nil List.take_succ_cons List.take_zero List.drop_succ_cons List.drop_zero List.take_nil List.drop_nil List.getElem?_cons_zero List.getElem?_cons_succ List.getElem?_nil List.getElem?_map List.all_cons List.all_nil List.cons_append List.nil_append List.flatMap_cons List.flatMap_nil Bool.and_true Bool.true_and Bool.and_false Bool.false_and Bool.or_false Bool.false_or Bool.or_true Bool.true_or Bool.not_true Bool.not_false and_true true_and and_false false_and if_true if_false ite_true ite_false reduceIte Int.toNat_natCast Int.natCast_nonneg reduceCtorEq Bool.false_eq_true Bool.true_eq_false true_or or_true false_or or_false not_true_eq_false not_false_eq_true ne_eq Option.isSome_some decide_true decide_false List.toList_toArray
@[go_sem] theorem upd_app {α : Type} (f : Nat → α) (t u : Nat) (v : α) : upd f t v u = bif u == t then v else f u := by
  unfold upd
  by_cases hu : u = t
  · subst hu; simp
  · rw [beq_false_of_ne hu, if_neg hu]; rfl
@[go_sem] theorem cond_t {α : Type} (a b : α) : (bif true then a else b) = a := nrfl rfl
@[go_sem] theorem cond_f {α : Type} (a b : α) : (bif false then a else b) = b := nrfl rfl
@[go_sem] theorem put_some (d : Tmp) (v : PV) : St.put s (some d) v = ⟨upd s.sl d v, s.hp⟩ := nrfl rfl
@[go_sem] theorem put_none (v : PV) : St.put s none v = s := nrfl rfl
@[go_sem] theorem ev_tmp (sl : Sl) (t : Tmp) : ev sl (.tmp t) = sl t := nrfl rfl
@[go_sem] theorem ev_func (sl : Sl) (f : FuncId) : ev sl (.func f) = .t (.fn f []) := nrfl rfl
@[go_sem] theorem ev_int (sl : Sl) (k : IntKind) (n : Int) : ev sl (.const (.int k n)) = .t (.int k n) := nrfl rfl
@[go_sem] theorem ev_bool (sl : Sl) (b : Bool) : ev sl (.const (.bool b)) = .t (.bool b) := nrfl rfl
@[go_sem] theorem ev_nil (sl : Sl) : ev sl (.const (.slice none 0 0)) = .t (.sl false []) := nrfl rfl
@[go_sem] theorem ev_nilp (sl : Sl) : ev sl (.const (.pointer none)) = .t .nilp := nrfl rfl
@[go_sem] theorem evs_nil (sl : Sl) : evs sl [] = [] := nrfl rfl
@[go_sem] theorem evs_cons (sl : Sl) (x : Operand) (l : List Operand) : evs sl (x :: l) = ev sl x :: evs sl l := nrfl rfl
@[go_sem] theorem boolOf_bool (b : Bool) : boolOf (.t (.bool b)) = some b := nrfl rfl
@[go_sem] theorem initSl_app (args : List Tr) (t : Nat) : initSl args t = (match args[t]? with | some x => x.pv | none => .undef) := nrfl rfl
@[go_sem] theorem initSt_sl (args : List Tr) : (initSt args).sl = initSl args := nrfl rfl
@[go_sem] theorem initSt_hp (args : List Tr) : (initSt args).hp = fun _ => [] := nrfl rfl
@[go_sem] theorem pv_int (k : IntKind) (n : Int) : (Tr.int k n).pv = .t (.int k n) := nrfl rfl
@[go_sem] theorem pv_bool (b : Bool) : (Tr.bool b).pv = .t (.bool b) := nrfl rfl
@[go_sem] theorem pv_agg (l : List Tr) : (Tr.agg l).pv = .t (.agg l) := nrfl rfl
@[go_sem] theorem pv_sl (nn : Bool) (l : List Tr) : (Tr.sl nn l).pv = .t (.sl nn l) := nrfl rfl
@[go_sem] theorem pv_fn (f : FuncId) (l : List Tr) : (Tr.fn f l).pv = .t (.fn f l) := nrfl rfl
@[go_sem] theorem pv_ptr (cs : List Tr) : (Tr.ptr cs).pv = .ro cs := nrfl rfl
@[go_sem] theorem lift_ro (cs : List Tr) : (PV.ro cs).lift = .t (.ptr cs) := nrfl rfl
def guardV (p : PV) : Option (Option Bool) := match p with | .t (.bool b) => some (some b) | .skip => some none | _ => none
@[go_sem] theorem guardV_bool (b : Bool) : guardV (.t (.bool b)) = some (some b) := nrfl rfl
@[go_sem] theorem guardV_skip : guardV .skip = some none := nrfl rfl
@[go_sem] theorem guardPV_succ (o : Oper) (l : List Oper) (sl : Sl) (j : Nat) : guardPV (o :: l) sl (j + 1) = guardPV l sl j := nrfl rfl
@[go_sem] theorem guardPV_zero (d : Tmp) (op : Op) (ty : TypeId) (ps : String) (af : Array Edge) (g : Option (Nat × Bool)) (l : List Oper) (sl : Sl) : guardPV (⟨some d, op, ty, ps, af, g⟩ :: l) sl 0 = guardV (sl d) := nrfl rfl
@[go_sem] theorem homedX_tmp (sl : Sl) (d : Tmp) : homedX mu (.tmp d) sl = bif mu (1000000 + d) then (sl d).at_ d else true := by
  unfold homedX homeX
  cases h : mu (1000000 + d) <;> simp [h]
@[go_sem] theorem at_ad (id : Id) (n off d : Nat) : (PV.ad id n off).at_ d = (id.1 == d) := nrfl rfl
@[go_sem] theorem cells_int (k : IntKind) (n : Int) : (PV.t (.int k n)).cells = [.t (.int k n)] := nrfl rfl
@[go_sem] theorem cells_bool (b : Bool) : (PV.t (.bool b)).cells = [.t (.bool b)] := nrfl rfl
@[go_sem] theorem cells_sl (nn : Bool) (l : List Tr) : (PV.t (.sl nn l)).cells = [.t (.sl nn l)] := nrfl rfl
@[go_sem] theorem cells_agg (l : List Tr) : (PV.t (.agg l)).cells = l.map .t := nrfl rfl
@[go_sem] theorem cells_rf (id : Id) (n : Nat) : (PV.rf id n).cells = [.rf id n] := nrfl rfl
@[go_sem] theorem tcells_int (k : IntKind) (n : Int) : (Tr.int k n).cells = [.int k n] := nrfl rfl
@[go_sem] theorem tcells_sl (nn : Bool) (l : List Tr) : (Tr.sl nn l).cells = [.sl nn l] := nrfl rfl
@[go_sem] theorem tcells_agg (l : List Tr) : (Tr.agg l).cells = l := nrfl rfl
@[go_sem] theorem one_int (k : IntKind) (n : Int) : (PV.t (.int k n)).one = true := nrfl rfl
@[go_sem] theorem one_bool (b : Bool) : (PV.t (.bool b)).one = true := nrfl rfl
@[go_sem] theorem one_sl (nn : Bool) (l : List Tr) : (PV.t (.sl nn l)).one = true := nrfl rfl
@[go_sem] theorem one_rf (id : Id) (n : Nat) : (PV.rf id n).one = true := nrfl rfl
@[go_sem] theorem trees_nil : trees [] = some [] := nrfl rfl
@[go_sem] theorem trees_cons (x : Tr) (l : List PV) : trees (.t x :: l) = (trees l).map (x :: ·) := by simp only [trees]; cases trees l <;> rfl
@[go_sem] theorem trees_map (l : List Tr) : trees (l.map .t) = some l := by induction l with | nil => rfl | cons a l ih => simp [trees, ih]
@[go_sem] theorem mkAgg_tree {l : List PV} (hl : (trees l).isSome = true) : mkAgg l = .t (.agg ((trees l).getD [])) := by
  unfold mkAgg; cases h : trees l with
  | none => rw [h] at hl; cases hl
  | some ts => rfl
@[go_sem] theorem mkFn_tree {f : FuncId} {l : List PV} (hl : (trees (l.map PV.lift)).isSome = true) : mkFn f l = .t (.fn f ((trees (l.map PV.lift)).getD [])) := by
  unfold mkFn; cases h : trees (l.map PV.lift) with
  | none => rw [h] at hl; cases hl
  | some ts => rfl
attribute [go_sem] Option.getD_some
@[go_sem] theorem cells_mkAgg (l : List PV) : (mkAgg l).cells = l := by
  unfold mkAgg; cases h : trees l with
  | none => rfl
  | some ts => rw [trees_get h]; rfl
def aggX (x : Option (List Tr)) : Option Tr := match x with | some ts => some (.agg ts) | none => none
@[go_sem] theorem isRef_t (x : Tr) : (PV.t x).isRef = false := nrfl rfl
@[go_sem] theorem isRef_ro (x : List Tr) : (PV.ro x).isRef = false := nrfl rfl
@[go_sem] theorem isRef_rf (id : Id) (n : Nat) : (PV.rf id n).isRef = true := nrfl rfl
@[go_sem] theorem isRef_ad (id : Id) (n off : Nat) : (PV.ad id n off).isRef = true := nrfl rfl
@[go_sem] theorem outer_tmp (t : Tmp) : outer mu (.tmp t) = mu t := nrfl rfl
@[go_sem] theorem outer_const (v : Value) : outer mu (.const v) = false := nrfl rfl
@[go_sem] theorem treeX_tmp (t : Tmp) : treeX mu (.tmp t) = mu (2000000 + t) := nrfl rfl
theorem splice_def' (l : List PV) (off : Nat) (vs : List PV) : splice l off vs = l.take off ++ vs ++ l.drop (off + vs.length) := rfl
@[go_sem] theorem splice_lit (l : List PV) (n : Nat) (vs : List PV) : splice l (no_index (OfNat.ofNat n)) vs = l.take (OfNat.ofNat n) ++ vs ++ l.drop (OfNat.ofNat n + vs.length) := nrfl rfl
theorem set_splice {α : Type} (l : List α) (k : Nat) (a : α) (hk : k < l.length) : l.take k ++ [a] ++ l.drop (k + 1) = l.set k a := by
  induction l generalizing k with
  | nil => simp at hk
  | cons b l ih =>
    cases k with
    | zero => rfl
    | succ k => simp only [List.take_succ_cons, List.cons_append, List.drop_succ_cons, List.set_cons_succ]; rw [← ih k (by simpa using hk)]
attribute [go_sem] Nat.mul_one
@[go_sem] theorem zrow_ints (kd : IntKind) (n : Nat) : zrow [Tr.int kd 0] n = (List.replicate n (0 : Int)).map (Tr.int kd) := by
  induction n with
  | zero => rfl
  | succ n ih => simp only [zrow, ih, List.replicate_succ, List.map_cons, List.cons_append, List.nil_append]
def loadX (ag : Option Bool) (n : Nat) (p : PV) (h : Hp) : Option PV := match ag, p with
  | some true, .ro cs => if (cs.take n).length = n then some (.t (.agg (cs.take n))) else none
  | some false, .ro (c :: _) => some (.t c)
  | some true, .ad id m off => match hget h id with
    | some o => if o.len = m ∧ ((o.cs.drop off).take n).length = n then some (mkAgg ((o.cs.drop off).take n)) else none
    | none => none
  | some false, .ad id m off => match hget h id with
    | some o => if o.len = m then o.cs[off]? else none
    | none => none
  | _, _ => none
@[go_sem] theorem loadPV_x (t : TypeId) (p : PV) : loadPV P t p h = loadX (aggB P t) (P.cellsOf t) p h := nrfl rfl
@[go_sem] theorem loadX_ro_agg (n : Nat) (cs : List Tr) : loadX (some true) n (.ro cs) h = if (cs.take n).length = n then some (.t (.agg (cs.take n))) else none := nrfl rfl
@[go_sem] theorem loadX_ro (n : Nat) (c : Tr) (cs : List Tr) : loadX (some false) n (.ro (c :: cs)) h = some (.t c) := nrfl rfl
def ldO (o : Option Obj) (m off : Nat) : Option PV := match o with | some o => if o.len = m then o.cs[off]? else none | none => none
def ldA (o : Option Obj) (m off n : Nat) : Option PV := match o with | some o => if o.len = m ∧ ((o.cs.drop off).take n).length = n then some (mkAgg ((o.cs.drop off).take n)) else none | none => none
@[go_sem] theorem loadX_ad (n : Nat) (id : Id) (m off : Nat) : loadX (some false) n (.ad id m off) h = ldO (hget h id) m off := nrfl rfl
@[go_sem] theorem loadX_ad_agg (n : Nat) (id : Id) (m off : Nat) : loadX (some true) n (.ad id m off) h = ldA (hget h id) m off n := nrfl rfl
@[go_sem] theorem ldO_some (o : Obj) (m off : Nat) : ldO (some o) m off = if o.len = m then o.cs[off]? else none := nrfl rfl
@[go_sem] theorem ldA_some (o : Obj) (m off n : Nat) : ldA (some o) m off n = if o.len = m ∧ ((o.cs.drop off).take n).length = n then some (mkAgg ((o.cs.drop off).take n)) else none := nrfl rfl
def stX (o : Option Obj) (h : Hp) (id : Id) (m off : Nat) (ok : Bool) (n : Nat) (cs : List PV) : Option Hp := match o with
  | some o => if o.len = m ∧ o.live = true ∧ ok = true ∧ cs.length = n ∧ off + cs.length ≤ o.cs.length ∧ cs.all PV.one = true then some (hset h id { o with cs := splice o.cs off cs }) else none
  | none => none
@[go_sem] theorem storePV_x (t : TypeId) (id : Id) (m off : Nat) (v : PV) : storePV P t (.ad id m off) v h = stX (hget h id) h id m off (P.info? t).isSome (P.cellsOf t) v.cells := nrfl rfl
@[go_sem] theorem stX_some (o : Obj) (id : Id) (m off : Nat) (ok : Bool) (n : Nat) (cs : List PV) : stX (some o) h id m off ok n cs = if o.len = m ∧ o.live = true ∧ ok = true ∧ cs.length = n ∧ off + cs.length ≤ o.cs.length ∧ cs.all PV.one = true then some (hset h id { o with cs := splice o.cs off cs }) else none := nrfl rfl
def vldO (o : Option Obj) (n : Nat) : Bool := match o with | some o => o.len == n | none => false
@[go_sem] theorem valid_x (id : Id) (n : Nat) : valid h id n = vldO (hget h id) n := nrfl rfl
@[go_sem] theorem vldO_some (o : Obj) (n : Nat) : vldO (some o) n = (o.len == n) := nrfl rfl
def fieldAddrX (f : Option (Nat × TypeId)) (p : PV) (h : Hp) : Option PV := match f with
  | some (off, _) => (match p with
    | .ro cs => some (.ro (cs.drop off))
    | .ad id n o => if valid h id n then some (.ad id n (o + off)) else none
    | _ => none)
  | none => none
@[go_sem] theorem fieldAddrPV_x (t : TypeId) (i : Nat) (p : PV) : fieldAddrPV P t i p h = fieldAddrX (fieldB P t i) p h := nrfl rfl
@[go_sem] theorem fieldAddrX_ro (off : Nat) (ft : TypeId) (cs : List Tr) : fieldAddrX (some (off, ft)) (.ro cs) h = some (.ro (cs.drop off)) := nrfl rfl
@[go_sem] theorem fieldAddrX_ad (off : Nat) (ft : TypeId) (id : Id) (n o : Nat) : fieldAddrX (some (off, ft)) (.ad id n o) h = if valid h id n = true then some (.ad id n (o + off)) else none := nrfl rfl
@[go_sem] theorem nilCheckPV_ad (id : Id) (n off : Nat) : nilCheckPV h (.ad id n off) = if valid h id n = true then some (.ad id n off) else none := nrfl rfl
def idxT (e : Option TypeId) (P : Program) (y : Option Tr) (i : Int) : Option PV := match e with
  | some e => if 0 ≤ i then (match y with | some y => if y.cells.length = P.cellsOf e ∧ 0 < P.cellsOf e then some (.ro y.cells) else none | none => none) else none
  | none => none
def idxO (e : Option TypeId) (P : Program) (o : Option Obj) (id : Id) (n : Nat) (i : Int) : Option PV := match e with
  | some e => (match o with | some o => if o.len = n ∧ o.esz = P.cellsOf e ∧ 0 ≤ i ∧ i.toNat < n then some (.ad id n (i.toNat * o.esz)) else none | none => none)
  | none => none
@[go_sem] theorem indexAddrPV_sl (t : TypeId) (nn : Bool) (l : List Tr) (k : IntKind) (i : Int) : indexAddrPV P t (.t (.sl nn l)) (.t (.int k i)) h = idxT (elemB P t) P l[i.toNat]? i := by
  unfold indexAddrPV idxT; cases elemB P t <;> rfl
@[go_sem] theorem indexAddrPV_rf (t : TypeId) (id : Id) (n : Nat) (k : IntKind) (i : Int) : indexAddrPV P t (.rf id n) (.t (.int k i)) h = idxO (elemB P t) P (hget h id) id n i := by
  unfold indexAddrPV idxO; cases elemB P t <;> rfl
@[go_sem] theorem idxT_some (e : TypeId) (y : Tr) (i : Int) : idxT (some e) P (some y) i = if 0 ≤ i ∧ y.cells.length = P.cellsOf e ∧ 0 < P.cellsOf e then some (.ro y.cells) else none := by
  unfold idxT; by_cases h1 : 0 ≤ i <;> simp [h1]
@[go_sem] theorem idxO_some (e : TypeId) (o : Obj) (id : Id) (n : Nat) (i : Int) : idxO (some e) P (some o) id n i = if o.len = n ∧ o.esz = P.cellsOf e ∧ 0 ≤ i ∧ i.toNat < n then some (.ad id n (i.toNat * o.esz)) else none := nrfl rfl
def fieldX (f : Option (Nat × TypeId)) (P : Program) (p : PV) : Option PV := match f with
  | some (off, ft) => (match aggB P ft, p with
    | some true, .t (.agg l) => some (.t (.agg ((l.drop off).take (P.cellsOf ft))))
    | some false, .t (.agg l) => (match l[off]? with | some x => some (.t x) | none => none)
    | some true, .agg l => some (mkAgg ((l.drop off).take (P.cellsOf ft)))
    | some false, .agg l => l[off]?
    | _, _ => none)
  | none => none
def fld (ag : Option Bool) (n off : Nat) (p : PV) : Option PV := match ag, p with
  | some true, .t (.agg l) => some (.t (.agg ((l.drop off).take n)))
  | some false, .t (.agg l) => (l[off]?).map .t
  | some true, .agg l => some (mkAgg ((l.drop off).take n))
  | some false, .agg l => l[off]?
  | _, _ => none
@[go_sem] theorem fieldPV_x (t : TypeId) (i : Nat) (p : PV) : fieldPV P t i p = fieldX (fieldB P t i) P p := nrfl rfl
@[go_sem] theorem fieldX_some (off : Nat) (ft : TypeId) (p : PV) : fieldX (some (off, ft)) P p = fld (aggB P ft) (P.cellsOf ft) off p := by
  unfold fieldX fld
  simp only
  generalize aggB P ft = ag
  cases ag with
  | none => rfl
  | some b =>
    cases b with
    | true => cases p with
      | t y => cases y <;> rfl
      | _ => rfl
    | false => cases p with
      | t y => cases y with
        | agg l => simp only; cases l[off]? <;> rfl
        | _ => rfl
      | _ => rfl
@[go_sem] theorem fld_tf (n off : Nat) (l : List Tr) : fld (some false) n off (.t (.agg l)) = (l[off]?).map .t := nrfl rfl
@[go_sem] theorem extractPV_t (l : List Tr) (i : Nat) : extractPV (.t (.tup l)) i = (l[i]?).map .t := by
  unfold extractPV; cases h : l[i]? <;> simp [h]
@[go_sem] theorem extractPV_p (l : List PV) (i : Nat) : extractPV (.tup l) i = l[i]? := nrfl rfl
section
variable (t : TypeId) (k : IntKind) (a b : Int)
@[go_sem] theorem bin_add : binPV P h .add t (.t (.int k a)) (.t (.int k b)) = some (.t (.int k (k.wrap (a + b)))) := by simp [binPV, arith]
@[go_sem] theorem bin_sub : binPV P h .sub t (.t (.int k a)) (.t (.int k b)) = some (.t (.int k (k.wrap (a - b)))) := by simp [binPV, arith]
@[go_sem] theorem bin_mul : binPV P h .mul t (.t (.int k a)) (.t (.int k b)) = some (.t (.int k (k.wrap (a * b)))) := by simp [binPV, arith]
@[go_sem] theorem bin_quo : binPV P h .quo t (.t (.int k a)) (.t (.int k b)) = if b = 0 then none else some (.t (.int k (k.wrap (a.tdiv b)))) := by simp [binPV, arith]
@[go_sem] theorem bin_rem : binPV P h .rem t (.t (.int k a)) (.t (.int k b)) = if b = 0 then none else some (.t (.int k (a.tmod b))) := by simp [binPV, arith]
@[go_sem] theorem bin_and : binPV P h .and t (.t (.int k a)) (.t (.int k b)) = some (.t (.int k (k.wrap ((BitVec.ofInt k.bits a &&& BitVec.ofInt k.bits b).toNat)))) := by simp [binPV, arith]
@[go_sem] theorem bin_or : binPV P h .or t (.t (.int k a)) (.t (.int k b)) = some (.t (.int k (k.wrap ((BitVec.ofInt k.bits a ||| BitVec.ofInt k.bits b).toNat)))) := by simp [binPV, arith]
@[go_sem] theorem bin_xor : binPV P h .xor t (.t (.int k a)) (.t (.int k b)) = some (.t (.int k (k.wrap ((BitVec.ofInt k.bits a ^^^ BitVec.ofInt k.bits b).toNat)))) := by simp [binPV, arith]
@[go_sem] theorem bin_eql : binPV P h .eql t (.t (.int k a)) (.t (.int k b)) = some (.t (.bool (a == b))) := by simp [binPV, arith]
@[go_sem] theorem bin_neq : binPV P h .neq t (.t (.int k a)) (.t (.int k b)) = some (.t (.bool (a != b))) := by simp [binPV, arith]
@[go_sem] theorem bin_lss : binPV P h .lss t (.t (.int k a)) (.t (.int k b)) = some (.t (.bool (decide (a < b)))) := by simp [binPV, arith]
@[go_sem] theorem bin_leq : binPV P h .leq t (.t (.int k a)) (.t (.int k b)) = some (.t (.bool (decide (a ≤ b)))) := by simp [binPV, arith]
@[go_sem] theorem bin_gtr : binPV P h .gtr t (.t (.int k a)) (.t (.int k b)) = some (.t (.bool (decide (a > b)))) := by simp [binPV, arith]
@[go_sem] theorem bin_geq : binPV P h .geq t (.t (.int k a)) (.t (.int k b)) = some (.t (.bool (decide (a ≥ b)))) := by simp [binPV, arith]
@[go_sem] theorem bin_shl (k' : IntKind) : binPV P h .shl t (.t (.int k a)) (.t (.int k' b)) = if b < 0 then none else some (.t (.int k (k.wrap (a * 2 ^ (min b.toNat k.bits))))) := by simp [binPV, shiftPV]
@[go_sem] theorem bin_shr (k' : IntKind) : binPV P h .shr t (.t (.int k a)) (.t (.int k' b)) = if b < 0 then none else some (.t (.int k (a.fdiv (2 ^ (min b.toNat k.bits))))) := by simp [binPV, shiftPV]
@[go_sem] theorem un_neg : unPV .neg (.t (.int k a)) = some (.t (.int k (k.wrap (0 - a)))) := nrfl rfl
@[go_sem] theorem un_not (x : Bool) : unPV .not (.t (.bool x)) = some (.t (.bool (!x))) := nrfl rfl
end
def bEq (isB : Bool) (x : Bool) : Option PV := if isB = true then some (.t (.bool x)) else none
@[go_sem] theorem bin_beql (t : TypeId) (a b : Bool) : binPV P h .eql t (.t (.bool a)) (.t (.bool b)) = bEq (isBoolB P t) (a == b) := by simp [binPV, bEq]
@[go_sem] theorem bin_bneq (t : TypeId) (a b : Bool) : binPV P h .neq t (.t (.bool a)) (.t (.bool b)) = bEq (isBoolB P t) (a != b) := by simp [binPV, bEq]
@[go_sem] theorem bEq_true (x : Bool) : bEq true x = some (.t (.bool x)) := nrfl rfl
def nilX (e : Option TypeId) (b : Option Bool) : Option PV := match e, b with | some _, some b => some (.t (.bool b)) | _, _ => none
@[go_sem] theorem nilX_some (e : TypeId) (b : Bool) : nilX (some e) (some b) = some (.t (.bool b)) := nrfl rfl
@[go_sem] theorem bin_nileq (t : TypeId) (nn : Bool) (l : List Tr) : binPV P h .eql t (.t (.sl nn l)) (.t (.sl false [])) = nilX (elemB P t) (some (!nn)) := by
  simp only [binPV, isNilPV]; cases elemB P t <;> rfl
def convX (a b : Option IntKind) (n : Int) : Option PV := match a, b with | some _, some k => some (.t (.int k (k.wrap n))) | _, _ => none
@[go_sem] theorem conv_x (dst src : TypeId) (k : IntKind) (n : Int) : convPV P dst src (.t (.int k n)) = convX (intB P src) (intB P dst) n := by
  unfold convPV convX; cases intB P src <;> cases intB P dst <;> rfl
@[go_sem] theorem convX_some (a b : IntKind) (n : Int) : convX (some a) (some b) n = some (.t (.int b (b.wrap n))) := nrfl rfl
def newVarX (ag : Option Bool) (n : Nat) (m : Bool) (d : Tmp) (t : TypeId) (cs : List PV) (h : Hp) : Option (PV × Hp) := match ag with
  | some ag => if cs.length = n ∧ 0 < n ∧ (ag = true ∨ n = 1) ∧ cs.all PV.one = true then
      if m then some (.ad (hnext h d) 1 0, hnew h d ⟨cs, n, 1, t, ag, true⟩)
      else match trees cs with | some ts => some (.ro ts, h) | none => none
    else none
  | none => none
@[go_sem] theorem newVarPV_x (d : Tmp) (t : TypeId) (cs : List PV) : newVarPV P mu (some d) t cs h = newVarX (aggB P t) (P.cellsOf t) (mu d) d t cs h := by
  unfold newVarPV newVarX; cases aggB P t <;> rfl
def roX (ts : Option (List Tr)) (h : Hp) : Option (PV × Hp) := match ts with | some ts => some (.ro ts, h) | none => none
@[go_sem] theorem roX_some (ts : List Tr) : roX (some ts) h = some (.ro ts, h) := nrfl rfl
@[go_sem] theorem newVarX_f (ag : Bool) (n : Nat) (d : Tmp) (t : TypeId) (cs : List PV) : newVarX (some ag) n false d t cs h = if cs.length = n ∧ 0 < n ∧ (ag = true ∨ n = 1) ∧ cs.all PV.one = true then roX (trees cs) h else none := by
  simp only [newVarX, roX, Bool.false_eq_true, if_false]
@[go_sem] theorem newVarX_t (ag : Bool) (n : Nat) (d : Tmp) (t : TypeId) (cs : List PV) : newVarX (some ag) n true d t cs h = if cs.length = n ∧ 0 < n ∧ (ag = true ∨ n = 1) ∧ cs.all PV.one = true then some (.ad (hnext h d) 1 0, hnew h d ⟨cs, n, 1, t, ag, true⟩) else none := by
  simp only [newVarX, if_true]
def newRowX (ag : Option Bool) (n : Nat) (m : Bool) (d : Tmp) (e : TypeId) (len : Nat) (cs : List PV) (h : Hp) : Option (PV × Hp) := match ag with
  | some ag => if ag = false ∧ n ≠ 1 then none else
    if m then some (.rf (hnext h d) len, hnew h d ⟨cs, n, len, e, ag, true⟩)
    else match trees cs with | some ts => some (.t (.sl true (elems ag n len ts)), h) | none => none
  | none => none
@[go_sem] theorem newRowPV_x (d : Tmp) (e : TypeId) (len : Nat) (cs : List PV) : newRowPV P mu (some d) e len cs h = newRowX (aggB P e) (P.cellsOf e) (mu d) d e len cs h := by
  unfold newRowPV newRowX; cases aggB P e <;> rfl
def slX (ag : Bool) (n len : Nat) (ts : Option (List Tr)) (h : Hp) : Option (PV × Hp) := match ts with | some ts => some (.t (.sl true (elems ag n len ts)), h) | none => none
@[go_sem] theorem slX_some (ag : Bool) (n len : Nat) (ts : List Tr) : slX ag n len (some ts) h = some (.t (.sl true (elems ag n len ts)), h) := nrfl rfl
@[go_sem] theorem newRowX_f (ag : Bool) (n : Nat) (d : Tmp) (e : TypeId) (len : Nat) (cs : List PV) : newRowX (some ag) n false d e len cs h = if ag = false ∧ n ≠ 1 then none else slX ag n len (trees cs) h := by
  simp only [newRowX, slX, Bool.false_eq_true, if_false]
@[go_sem] theorem newRowX_t (ag : Bool) (n : Nat) (d : Tmp) (e : TypeId) (len : Nat) (cs : List PV) : newRowX (some ag) n true d e len cs h = if ag = false ∧ n ≠ 1 then none else some (.rf (hnext h d) len, hnew h d ⟨cs, n, len, e, ag, true⟩) := by
  simp only [newRowX, if_true]
@[go_sem] theorem elems_f (n len : Nat) (ts : List Tr) : elems false n len ts = ts := nrfl rfl
@[go_sem] theorem elems_t (n len : Nat) (ts : List Tr) : elems true n len ts = chunk n len ts := nrfl rfl
@[go_sem] theorem chunk_zero (n : Nat) (ts : List Tr) : chunk n 0 ts = [] := nrfl rfl
@[go_sem] theorem chunk_succ (n len : Nat) (ts : List Tr) : chunk n (len + 1) ts = .agg (ts.take n) :: chunk n len (ts.drop n) := nrfl rfl
@[go_sem] theorem zrow_zero (z : List Tr) : zrow z 0 = [] := nrfl rfl
@[go_sem] theorem zrow_succ (z : List Tr) (n : Nat) : zrow z (n + 1) = z ++ zrow z n := nrfl rfl
def fpX (q : Option (Nat × Nat)) (place : Nat → Option (Nat × Nat)) (cells : List PV) (v : PV) (rest : List (Nat × PV)) : Option (List PV) := match q with
  | some (off, size) => if v.cells.length = size ∧ off + v.cells.length ≤ cells.length ∧ v.cells.all PV.one = true then fillPV place (splice cells off v.cells) rest else none
  | none => none
@[go_sem] theorem fillPV_nil (place : Nat → Option (Nat × Nat)) (cells : List PV) : fillPV place cells [] = some cells := nrfl rfl
@[go_sem] theorem fillPV_cons (place : Nat → Option (Nat × Nat)) (cells : List PV) (i : Nat) (v : PV) (rest : List (Nat × PV)) : fillPV place cells ((i, v) :: rest) = fpX (place i) place cells v rest := nrfl rfl
@[go_sem] theorem fpX_some (off size : Nat) (place : Nat → Option (Nat × Nat)) (cells : List PV) (v : PV) (rest : List (Nat × PV)) : fpX (some (off, size)) place cells v rest = if v.cells.length = size ∧ off + v.cells.length ≤ cells.length ∧ v.cells.all PV.one = true then fillPV place (splice cells off v.cells) rest else none := nrfl rfl
def buildX (pl : Option (List (Nat × Nat))) (z : Option (List Tr)) (parts : List (Nat × PV)) : Option PV := match pl, z with
  | some pl, some z => (fillPV (fun i => pl[i]?) (z.map .t) parts).map mkAgg
  | _, _ => none
@[go_sem] theorem buildPV_x (t : TypeId) (parts : List (Nat × PV)) : buildPV P t parts = buildX (placesB P t) (zeroB P t) parts := by
  unfold buildPV buildX
  cases placesB P t with
  | none => rfl
  | some pl =>
    cases zeroB P t with
    | none => rfl
    | some z => simp only; cases fillPV (fun i => pl[i]?) (z.map .t) parts <;> rfl
@[go_sem] theorem buildX_some (pl : List (Nat × Nat)) (z : List Tr) (parts : List (Nat × PV)) : buildX (some pl) (some z) parts = (fillPV (fun i => pl[i]?) (z.map .t) parts).map mkAgg := nrfl rfl
def bsX (e : TypeId) (n : Nat) (len : Nat) (P : Program) (mu : Nat → Bool) (d : Option Tmp) (cs : Option (List PV)) (h : Hp) : Option (PV × Hp) := match cs with
  | some cs => if cs.all PV.one = true then newRowPV P mu d e len cs h else none
  | none => none
@[go_sem] theorem bsX_some (e : TypeId) (n len : Nat) (d : Option Tmp) (cs : List PV) : bsX e n len P mu d (some cs) h = if cs.all PV.one = true then newRowPV P mu d e len cs h else none := nrfl rfl
def buildSliceX (e : Option TypeId) (P : Program) (mu : Nat → Bool) (d : Option Tmp) (len : Nat) (parts : List (Nat × PV)) (h : Hp) : Option (PV × Hp) := match e with
  | some e => (match zeroB P e with
    | some z => if z.length = P.cellsOf e ∧ 0 < P.cellsOf e ∧ len * P.cellsOf e ≤ 16777216 then bsX e (P.cellsOf e) len P mu d (fillPV (fun i => some (i * P.cellsOf e, P.cellsOf e)) ((zrow z len).map .t) parts) h else none
    | none => none)
  | none => none
def bsZ (z : Option (List Tr)) (n : Nat) (e : TypeId) (P : Program) (mu : Nat → Bool) (d : Option Tmp) (len : Nat) (parts : List (Nat × PV)) (h : Hp) : Option (PV × Hp) := match z with
  | some z => if z.length = n ∧ 0 < n ∧ len * n ≤ 16777216 then bsX e n len P mu d (fillPV (fun i => some (i * n, n)) ((zrow z len).map .t) parts) h else none
  | none => none
@[go_sem] theorem buildSlicePV_x (t : TypeId) (d : Option Tmp) (len : Nat) (parts : List (Nat × PV)) : buildSlicePV P mu d t len parts h = buildSliceX (elemB P t) P mu d len parts h := by
  unfold buildSlicePV buildSliceX
  cases elemB P t with
  | none => rfl
  | some e =>
    simp only
    cases zeroB P e with
    | none => rfl
    | some z =>
      simp only
      split
      · cases fillPV (fun i => some (i * P.cellsOf e, P.cellsOf e)) ((zrow z len).map .t) parts <;> rfl
      · rfl
@[go_sem] theorem buildSliceX_some (e : TypeId) (d : Option Tmp) (len : Nat) (parts : List (Nat × PV)) : buildSliceX (some e) P mu d len parts h = bsZ (zeroB P e) (P.cellsOf e) e P mu d len parts h := nrfl rfl
@[go_sem] theorem bsZ_some (z : List Tr) (n : Nat) (e : TypeId) (d : Option Tmp) (len : Nat) (parts : List (Nat × PV)) : bsZ (some z) n e P mu d len parts h = if z.length = n ∧ 0 < n ∧ len * n ≤ 16777216 then bsX e n len P mu d (fillPV (fun i => some (i * n, n)) ((zrow z len).map .t) parts) h else none := nrfl rfl
def msX (e : Option TypeId) (P : Program) (mu : Nat → Bool) (d : Option Tmp) (n m : Int) (h : Hp) : Option (PV × Hp) := match e with
  | some e => (match zeroB P e with
    | some z => if z.length = P.cellsOf e ∧ 0 < P.cellsOf e ∧ m = n ∧ 0 ≤ n ∧ n * P.bytesOf e ≤ 281474976710656 ∧ n ≤ 4611686018427387904 then newRowPV P mu d e n.toNat ((zrow z n.toNat).map .t) h else none
    | none => none)
  | none => none
def msZ (z : Option (List Tr)) (c by_ : Nat) (e : TypeId) (P : Program) (mu : Nat → Bool) (d : Option Tmp) (n m : Int) (h : Hp) : Option (PV × Hp) := match z with
  | some z => if z.length = c ∧ 0 < c ∧ m = n ∧ 0 ≤ n ∧ n * by_ ≤ 281474976710656 ∧ n ≤ 4611686018427387904 then newRowPV P mu d e n.toNat ((zrow z n.toNat).map .t) h else none
  | none => none
@[go_sem] theorem makeSlicePV_x (t : TypeId) (d : Option Tmp) (n m : Int) : makeSlicePV P mu d t (.t (.int .i64 n)) (.t (.int .i64 m)) h = msX (elemB P t) P mu d n m h := by
  unfold makeSlicePV msX; cases elemB P t <;> rfl
@[go_sem] theorem msX_some (e : TypeId) (d : Option Tmp) (n m : Int) : msX (some e) P mu d n m h = msZ (zeroB P e) (P.cellsOf e) (P.bytesOf e) e P mu d n m h := nrfl rfl
@[go_sem] theorem msZ_some (z : List Tr) (c by_ : Nat) (e : TypeId) (d : Option Tmp) (n m : Int) : msZ (some z) c by_ e P mu d n m h = if z.length = c ∧ 0 < c ∧ m = n ∧ 0 ≤ n ∧ n * by_ ≤ 281474976710656 ∧ n ≤ 4611686018427387904 then newRowPV P mu d e n.toNat ((zrow z n.toNat).map .t) h else none := nrfl rfl
def lenX (is el : Bool) (h : Hp) (x : PV) : Option PV := if is = true then (match x with | .t (.str b) => some (.t (.int .i64 b.size)) | _ => none) else if el = true then lenPV h x else none
@[go_sem] theorem lenX_sl (nn : Bool) (l : List Tr) : lenX false true h (.t (.sl nn l)) = some (.t (.int .i64 l.length)) := nrfl rfl
@[go_sem] theorem lenX_rf (id : Id) (n : Nat) : lenX false true h (.rf id n) = if valid h id n = true then some (.t (.int .i64 n)) else none := nrfl rfl
variable {dr : Bool} {all os : List Oper} {d : Option Tmp} {ty : TypeId} {ps : String} {af : Array Edge}
theorem len_eval (x : Operand) (t : TypeId) : evalOp P mu ⟨d, .call ⟨.builtin .len, #[x], #[t]⟩, ty, ps, af, none⟩ s = still (lenX (isStrB P t) (elemB P t).isSome s.hp (ev s.sl x)) s.hp := by
  simp only [evalOp, lenX]
  split
  · generalize ev s.sl x = u
    cases u with
    | t y => cases y <;> rfl
    | _ => rfl
  · split <;> rfl
@[go_sem ↓] theorem kont_len (x : Operand) (t : TypeId) : kont P mu F (.ops false all (⟨d, .call ⟨.builtin .len, #[x], #[t]⟩, ty, ps, af, none⟩ :: os) :: r) .normal s = stK P mu F (lenX (isStrB P t) (elemB P t).isSome s.hp (ev s.sl x)) d (.ops false all os :: r) s := by
  rw [kont_opF rfl rfl, len_eval]; exact still_hpK _
@[go_sem] theorem lenM_some (t : Tmp) : lenM mu (some t) = mu (6000000 + t) := nrfl rfl
theorem len_bare (x : Operand) (t : TypeId) (ty : TypeId) (ps : String) (af : Array Edge) : bare mu ⟨d, .call ⟨.builtin .len, #[x], #[t]⟩, ty, ps, af, none⟩ s.sl = ((!lenM mu d || awY mu (ev s.sl x)) && (outer mu x || !(ev s.sl x).isRef)) := by
  show ((!lenM mu d || awY mu (ev s.sl x)) && true && (outer mu x || !(ev s.sl x).isRef)) = _
  simp
@[go_sem ↓] theorem kont_lenD (x : Operand) (t : TypeId) (h6 : lenM mu d = false) : kont P mu F (.ops true all (⟨d, .call ⟨.builtin .len, #[x], #[t]⟩, ty, ps, af, none⟩ :: os) :: r) .normal s = drK (outer mu x || !(ev s.sl x).isRef) (stK P mu F (lenX (isStrB P t) (elemB P t).isSome s.hp (ev s.sl x)) d (.ops true all os :: r) s) := by
  rw [kont_drawn rfl rfl, len_eval, len_bare, h6]; exact congrArg _ (still_hpK _)
theorem apArg_same (t : TypeId) (q : PV) : apArg P t t q = q := by unfold apArg; rw [if_pos rfl]
theorem append_bare (x y : Operand) (t u : TypeId) (ty : TypeId) (ps : String) (af : Array Edge) : bare mu ⟨d, .call ⟨.builtin .append, #[x, y], #[t, u]⟩, ty, ps, af, none⟩ s.sl = apX mu d (ev s.sl x) (ev s.sl y) := by
  show (apX mu d (ev s.sl x) (ev s.sl y) && true && true) = _
  simp
@[go_sem ↓] theorem kont_append (x y : Operand) (t : TypeId) : kont P mu F (.ops false all (⟨d, .call ⟨.builtin .append, #[x, y], #[t, t]⟩, ty, ps, af, none⟩ :: os) :: r) .normal s = hpK P mu F (appendPV P mu d t (ev s.sl x) (ev s.sl y) s.hp) d (.ops false all os :: r) s := by
  rw [kont_opF rfl rfl]; simp only [evalOp, apArg_same]
@[go_sem ↓] theorem kont_appendD (x y : Operand) (t : TypeId) : kont P mu F (.ops true all (⟨d, .call ⟨.builtin .append, #[x, y], #[t, t]⟩, ty, ps, af, none⟩ :: os) :: r) .normal s = drK (apX mu d (ev s.sl x) (ev s.sl y)) (hpK P mu F (appendPV P mu d t (ev s.sl x) (ev s.sl y) s.hp) d (.ops true all os :: r) s) := by
  rw [kont_drawn rfl rfl, append_bare]; simp only [evalOp, apArg_same]
@[go_sem] theorem apX_no (p q : PV) (h : mu 3999999 = false) : apX mu d p q = true := by unfold apX; rw [h]; rfl
@[go_sem] theorem calleeOf_func (sl : Sl) (g : FuncId) (args : List Operand) : calleeOf sl (.func g) args = some (g, evs sl args) := by simp [calleeOf, ev]
def calleeX (f : PV) (vs : List PV) : Option (FuncId × List PV) := match f with
  | .t (.fn g caps) => some (g, vs ++ caps.map .t)
  | .fn g caps => some (g, vs ++ caps)
  | _ => none
@[go_sem] theorem calleeOf_tmp (sl : Sl) (t : Tmp) (args : List Operand) : calleeOf sl (.tmp t) args = calleeX (sl t) (evs sl args) := nrfl rfl
@[go_sem] theorem calleeX_t (g : FuncId) (caps : List Tr) (vs : List PV) : calleeX (.t (.fn g caps)) vs = some (g, vs ++ caps.map .t) := nrfl rfl
theorem reach_t (k : Nat) (x : Tr) : reach h k (.t x) = [] := by cases k <;> rfl
theorem toTr_t (k : Nat) (x : Tr) : toTr h k (.t x) = some x := by cases k <;> rfl
theorem flat_reach (ts : List Tr) (k : Nat) : (ts.map PV.t).flatMap (reach h k) = [] := by
  induction ts with
  | nil => rfl
  | cons a l ih => simp [reach_t, ih]
theorem clK_mk {g : FuncId} {ts : List Tr} {x : Tr} {args : List PV} (hd : DCall P g ts x) (ha : args = ts.map .t) (hk : kont P mu F r .normal (St.put s d (.t x))) : clK P mu F dr d (some (g, args)) r s := by
  subst ha
  simp only [clK, callW]
  split
  · exact .inl ⟨ts, x, trees_map ts, hd, hk⟩
  · refine .inl ⟨ts, x, mapO_t ts, hd, ?_⟩
    rw [flat_reach]
    simp only [frz, List.foldl_nil, ite_self]
    exact hk
theorem clK_fz {g : FuncId} {ts : List Tr} {x : Tr} {args : List PV} (hd : DCall P g ts x) (ha : mapO (toTr s.hp dep) args = some ts) (hs : x.scalar = false) (hk : kont P mu F r .normal (St.put { s with hp := frz s.hp (args.flatMap (reach s.hp dep)) } d (.t x))) : clK P mu F false d (some (g, args)) r s := by
  simp only [clK, callW, Bool.false_eq_true, if_false]
  exact .inl ⟨ts, x, ha, hd, by rw [hs]; simpa using hk⟩
theorem clK_fx {g : FuncId} {ts : List Tr} {x : Tr} {args : List PV} (hd : DCall P g ts x) (ha : mapO (toTr s.hp dep) args = some ts) (hf : fatB mu d = true) (hk : kont P mu F r .normal (St.put { s with hp := frz s.hp (args.flatMap (reach s.hp dep)) } d (.t x))) (h49 : mu 4999999 = false := by rfl) : clK P mu F true d (some (g, args)) r s := by
  simp only [clK, callW, if_true]
  exact .inr (.inl ⟨hf, _, _, ⟨.inr ⟨ts, x, ha, hd, rfl, rfl⟩, fun h => by rw [h49] at h; cases h⟩, hk⟩)
theorem clK_fe {g : FuncId} {ts : List Tr} {x : Tr} {args : List PV} (hd : DCall P g ts x) (ha : mapO (toTr s.hp dep) args = some ts) (hf : fatB mu d = true) (h11 : mu (11000000 + g) = true) (hk : kont P mu F r .normal (St.put { s with hp := frz s.hp (args.flatMap (reach s.hp dep)) } d (.t x))) : clK P mu F true d (some (g, args)) r s := by
  simp only [clK, callW, if_true]
  exact .inr (.inl ⟨hf, _, _, ⟨.inr ⟨ts, x, ha, hd, rfl, rfl⟩, fun _ h => by rw [h11] at h; cases h⟩, hk⟩)
theorem clK_ic {g : FuncId} {args : List PV} {Q : PV → Hp → Prop} (hd : ICall P g args s.hp Q) (hk : ∀ v h', Q v h' → kont P mu F r .normal (St.put { s with hp := h' } d v)) : clK P mu F false d (some (g, args)) r s := by
  simp only [clK, callW, Bool.false_eq_true, if_false]
  exact .inr (hd.mono hk)
theorem clK_ix {g : FuncId} {args : List PV} {v : PV} {h' : Hp} (hd : ICall P g args s.hp fun v' h'' => v' = v ∧ h'' = h') (hf : fatB mu d = true) (hk : kont P mu F r .normal (St.put { s with hp := h' } d v)) (h49 : mu 4999999 = false := by rfl) : clK P mu F dr d (some (g, args)) r s := by
  simp only [clK, callW]
  split
  · exact .inr (.inl ⟨hf, v, h', ⟨.inl hd, fun h => by rw [h49] at h; cases h⟩, hk⟩)
  · exact .inr (hd.mono fun v' h'' ⟨e1, e2⟩ => by rw [e1, e2]; exact hk)
theorem clK_iu {g : FuncId} {args : List PV} {v : PV} {h' : Hp} (hd : ∀ l : List (Nat × Obj), (∀ p ∈ l, mu (5000000 + p.1) = true) → ICall P g args (adds l s.hp) fun v' h'' => v' = v ∧ h'' = adds l h') (hl : ∀ c, mu (5000000 + c) = true → (h' c).length = (s.hp c).length) (hf : fatB mu d = true) (hk : kont P mu F r .normal (St.put { s with hp := h' } d v)) (hkp : ∀ c, mu (10000000 + c) = true → h' c = s.hp c := by intro c hc; simp only [Bool.or_eq_true, beq_iff_eq] at hc; omega) : clK P mu F true d (some (g, args)) r s := by
  simp only [clK, callW, if_true]
  exact .inr (.inl ⟨hf, v, h', ⟨.inl (hd [] (fun _ h => nomatch h)), fun _ _ => ⟨hl, hkp, fun l hl => .inl (hd l hl)⟩⟩, hk⟩)
@[go_sem] theorem hget_new (s' : Nat) (o : Obj) : hget (hnew h s' o) (hnext h s') = some o := by rw [hget_hnew, if_pos rfl]
theorem hget_new_ne {s' : Nat} {o : Obj} {id : Id} (hn : id.1 ≠ s') : hget (hnew h s' o) id = hget h id := by
  rw [hget_hnew, if_neg]
  intro e; exact hn (by rw [e]; rfl)
theorem hset_new (s' : Nat) (o o' : Obj) : hset (hnew h s' o) (hnext h s') o' = hnew h s' o' := by
  funext u
  unfold hset hnew hnext upd
  by_cases hu : u = s'
  · subst hu; simp
  · simp [hu]
attribute [go_sem] hset_new
@[go_sem] theorem hget_new_next {h' : Hp} {s1 s2 : Nat} (o : Obj) (hs : (s2 == s1) = false) : hget (hnew h s1 o) (hnext h' s2) = hget h (hnext h' s2) := by
  refine hget_new_ne ?_
  simpa [hnext] using hs
@[go_sem] theorem hnext_fst (s' : Nat) : (hnext h s').1 = s' := nrfl rfl
@[go_sem] theorem endK_ret (fn : Func) (x : Tr) : endK P fn x .ret s = (resTr P s fn.results.toList = some x) := nrfl rfl
def tupX (l : Option (List Tr)) : Option Tr := match l with | some ts => some (.tup ts) | none => none
@[go_sem] theorem tupX_some (l : List Tr) : tupX (some l) = some (.tup l) := nrfl rfl
theorem resTr_eq (l : List ResultVar) : resTr P s l = (match mapO (resOne P s) l with | some [x] => some x | some ts => some (.tup ts) | none => none) := rfl
@[go_sem] theorem resTr_one (a : ResultVar) : resTr P s [a] = resOne P s a := by
  rw [resTr_eq]; simp only [mapO]; cases resOne P s a <;> rfl
@[go_sem] theorem resTr_more (a b : ResultVar) (l : List ResultVar) : resTr P s (a :: b :: l) = tupX (mapO (resOne P s) (a :: b :: l)) := by
  rw [resTr_eq]; simp only [mapO]; cases resOne P s a <;> cases resOne P s b <;> cases mapO (resOne P s) l <;> rfl
def consX (a : Option Tr) (l : Option (List Tr)) : Option (List Tr) := match a, l with | some b, some bs => some (b :: bs) | _, _ => none
@[go_sem] theorem consX_some (a : Tr) (l : List Tr) : consX (some a) (some l) = some (a :: l) := nrfl rfl
@[go_sem] theorem mapO_res_nil : mapO (resOne P s) [] = some [] := nrfl rfl
@[go_sem] theorem mapO_res_cons (a : ResultVar) (l : List ResultVar) : mapO (resOne P s) (a :: l) = consX (resOne P s a) (mapO (resOne P s) l) := by
  simp only [mapO, consX]; cases resOne P s a <;> cases mapO (resOne P s) l <;> rfl
@[go_sem] theorem mapO_tr_nil (k : Nat) : mapO (toTr h k) [] = some [] := nrfl rfl
@[go_sem] theorem mapO_tr_cons (k : Nat) (a : PV) (l : List PV) : mapO (toTr h k) (a :: l) = consX (toTr h k a) (mapO (toTr h k) l) := by
  simp only [mapO, consX]; cases toTr h k a <;> cases mapO (toTr h k) l <;> rfl
@[go_sem] theorem resOne_tmp (t : Tmp) : resOne P s (.tmp t) = toTr s.hp dep (s.sl t) := nrfl rfl
def toTrO (h : Hp) (x : Option PV) : Option Tr := match x with | some p => toTr h dep p | none => none
@[go_sem] theorem toTrO_some (x : PV) : toTrO h (some x) = toTr h dep x := nrfl rfl
@[go_sem] theorem resOne_cell (a : Tmp) (t : TypeId) : resOne P s (.cell a t) = toTrO s.hp (loadPV P t (s.sl a) s.hp) := nrfl rfl
attribute [go_sem] toTr_t reach_t
theorem wrap_i64 {n : Int} (h1 : -9223372036854775808 ≤ n) (h2 : n ≤ 9223372036854775807) : IntKind.i64.wrap n = n := by
  have e1 : (2 : Int) ^ IntKind.i64.bits = 18446744073709551616 := by decide
  have e2 : (2 : Int) ^ (IntKind.i64.bits - 1) = 9223372036854775808 := by decide
  unfold IntKind.wrap
  simp only [e1, e2]
  by_cases hn : n % 18446744073709551616 ≥ 9223372036854775808
  · rw [if_pos (by simp [IntKind.signed, hn])]; omega
  · rw [if_neg (by simp [IntKind.signed, hn])]; omega
end
end Go.Vm
end
section
set_option linter.unusedSimpArgs false
namespace Go.Vm
open Go
section
variable {P : Program} {mu : Nat → Bool} {F : Ex → St → Prop} {r : List Item} {s : St} {h : Hp}
theorem wrap_succ {k : Nat} (hk : k < 9223372036854775807) : IntKind.i64.wrap ((k : Int) + 1) = ((k + 1 : Nat) : Int) := by
  rw [wrap_i64 (by omega) (by omega)]; rfl
theorem kont_split (c : Code) (G : St → Prop) (b : Nat) (body : Code) : kont P mu F (.code body :: .blk b :: .back (kont P mu F (.code c :: .back G :: r) .normal) :: r) .normal s = kont P mu F (.code body :: .blk b :: .code c :: .back G :: r) .normal s := by
  show Vm.wp P mu body s (kont P mu F (.blk b :: _)) = Vm.wp P mu body s (kont P mu F (.blk b :: _))
  congr 1
theorem kont_frame {G : St → Prop} {b : Nat} {body : Code} (hk : kont P mu F (.code body :: .blk b :: .back G :: r) .normal s) :
    kont P mu F (.code body :: .blk b :: .back (fun s'' => G s'' ∧ ∀ t, (writes body).contains t = false → s''.sl t = s.sl t) :: r) .normal s := by
  refine vwp_mono _ _ _ _ (fun e s'' ⟨h1, h2⟩ => ?_) (vwp_frame _ _ _ hk)
  have h3 : ∀ t, (writes body).contains t = false → s''.sl t = s.sl t := fun t ht => h2 t (by simpa using ht)
  cases e with
  | normal => exact ⟨h1, h3⟩
  | exit n =>
    rw [kont_blk_exit] at h1 ⊢
    by_cases hn : n = b
    · rw [if_pos hn] at h1 ⊢; exact ⟨h1, h3⟩
    · rw [if_neg hn] at h1 ⊢; exact h1
  | ret => exact h1
theorem kont_back_mono {G G' : St → Prop} {b : Nat} {body : Code} (hg : ∀ s, G s → G' s) (hk : kont P mu F (.code body :: .blk b :: .back G :: r) .normal s) : kont P mu F (.code body :: .blk b :: .back G' :: r) .normal s := by
  refine vwp_mono _ _ _ _ (fun e s'' h1 => ?_) hk
  cases e with
  | normal => exact hg _ h1
  | exit n =>
    rw [kont_blk_exit] at h1 ⊢
    by_cases hn : n = b
    · rw [if_pos hn] at h1 ⊢; exact hg _ h1
    · rw [if_neg hn] at h1 ⊢; exact h1
  | ret => exact h1
def sepB (c nx ix ln : Nat) (body : Code) : Bool := !(c == ix) && !(c == ln) && !(nx == ix) && !(nx == ln) && !(ix == ln) && !(writes body).contains ix && !(writes body).contains ln
theorem loop_range {α : Type} (l : List α) (J : Nat → St → Prop) {a1 a2 b b1 c nx ix ln : Nat} {body : Code} {t1 t2 t3 t4 t5 t6 t7 : TypeId} {p1 p2 p3 : String} {f1 f2 f3 : Array Edge}
    (hix : s.sl ix = .t (.int .i64 0)) (hln : s.sl ln = .t (.int .i64 l.length)) (hmax : l.length ≤ 9223372036854775807) (hsep : sepB c nx ix ln body = true)
    (hst : ∀ k s' v w, J k s' → J k ⟨upd (upd s'.sl nx v) ix w, s'.hp⟩) (hst1 : ∀ k s' u, J k s' → J k ⟨upd s'.sl c u, s'.hp⟩) (h0 : J 0 s)
    (hr : ∀ (k : Nat) (x : α) (s' : St), l[k]? = some x → l.drop k = x :: l.drop (k + 1) → k < l.length → J k s' → s'.sl ix = .t (.int .i64 k) →
      (∀ t, (c :: nx :: ix :: writes body).contains t = false → s'.sl t = s.sl t) → ∀ G : St → Prop, (∀ s'', J (k + 1) s'' → G s'') → kont P mu F (.code body :: .blk b1 :: .back G :: r) .normal s')
    (he : ∀ s', J l.length s' → (∀ t, (c :: nx :: ix :: writes body).contains t = false → s'.sl t = s.sl t) → kont P mu F r (.exit b) s') :
    kont P mu F (.code (.loop (.seq (.region a1 #[⟨some c, .binOp .lss t1 (.tmp ix) (.tmp ln) t2, t3, p1, f1, none⟩] false) (.seq (.cond (.tmp c) .skip (.exit b)) (.seq (.block b1 body)
      (.region a2 #[⟨some nx, .binOp .add t4 (.tmp ix) (.const (.int .i64 1)) t5, t6, p2, f2, none⟩, ⟨some ix, .move (.tmp nx), t7, p3, f3, none⟩] false))))) :: r) .normal s := by
  simp only [sepB, Bool.and_eq_true, Bool.not_eq_true', beq_eq_false_iff_ne, ne_eq] at hsep
  obtain ⟨⟨⟨⟨⟨⟨d1, d2⟩, d3⟩, d4⟩, d5⟩, d6⟩, d7⟩ := hsep
  refine loop_mk (fun m s' => ∃ k : Nat, k ≤ l.length ∧ m = l.length - k ∧ s'.sl ix = .t (.int .i64 k) ∧ s'.sl ln = .t (.int .i64 l.length) ∧ J k s' ∧ (∀ t, (c :: nx :: ix :: writes body).contains t = false → s'.sl t = s.sl t)) l.length
    ⟨0, Nat.zero_le _, rfl, hix, hln, h0, fun _ _ => rfl⟩ ?_
  rintro _ s' ⟨k, hk, rfl, h1, h2, hJ, hf⟩ _ G hG
  have hf' : ∀ t u, (c :: nx :: ix :: writes body).contains t = false → (upd s'.sl c u) t = s.sl t := fun t u ht => by
    rw [upd_ne _ _ _ _ (by intro e; subst e; simp at ht)]; exact hf t ht
  simp only [kont_seq, kont_region, kont_binOp, ev_tmp, h1, h2, bin_lss, stK_some, kont_ops_nil, kont_cond, put_some, upd_eq, boolOf_bool]
  refine sD (fun hc => ?_) (fun hc => ?_)
  · have hlt : k < l.length := by simpa using hc
    simp only [kont_seq, kont_skip, kont_block]
    rw [← kont_split]
    have hs1 : (upd s'.sl c (.t (.bool (decide ((k : Int) < l.length))))) ix = .t (.int .i64 k) := by rw [upd_ne _ _ _ _ (Ne.symm d1)]; exact h1
    have hs2 : (upd s'.sl c (.t (.bool (decide ((k : Int) < l.length))))) ln = .t (.int .i64 l.length) := by rw [upd_ne _ _ _ _ (Ne.symm d2)]; exact h2
    refine kont_back_mono (fun s'' ⟨hJ', hfr⟩ => ?_) (kont_frame (hr k l[k] ⟨upd s'.sl c (.t (.bool (decide ((k : Int) < l.length)))), s'.hp⟩ (List.getElem?_eq_getElem hlt) (List.drop_eq_getElem_cons hlt) hlt (hst1 _ _ _ hJ) hs1 (fun t ht => hf' t _ ht) (J (k + 1)) (fun s'' hJ' => hJ')))
    have e1 : s''.sl ix = .t (.int .i64 k) := (hfr ix d6).trans hs1
    have e2 : s''.sl ln = .t (.int .i64 l.length) := (hfr ln d7).trans hs2
    simp only [kont_region, List.toList_toArray, kont_binOp, ev_tmp, ev_int, e1, bin_add, stK_some, put_some, kont_move, upd_eq, kont_ops_nil, kont_back, wrap_succ (Nat.lt_of_lt_of_le hlt hmax)]
    refine hG (l.length - (k + 1)) _ (by omega) ⟨k + 1, hlt, rfl, upd_eq _ _ _, ?_, hst _ _ _ _ hJ', fun t ht => ?_⟩
    · simp only; rw [upd_ne _ _ _ _ (Ne.symm d5), upd_ne _ _ _ _ (Ne.symm d4)]; exact e2
    · have h5 : (writes body).contains t = false := by simp only [List.contains_cons, Bool.or_eq_false_iff] at ht; exact ht.2.2.2
      have h6 : t ≠ ix := by intro e; subst e; simp at ht
      have h7 : t ≠ nx := by intro e; subst e; simp at ht
      simp only
      rw [upd_ne _ _ _ _ h6, upd_ne _ _ _ _ h7, hfr t h5]
      exact hf' t _ ht
  · have hkl : k = l.length := by simp at hc; omega
    subst hkl
    simp only [kont_exit, kont_code_exit, kont_back_exit]
    exact he _ (hst1 _ _ _ hJ) (fun t ht => hf' t _ ht)
mutual
def Tr.sized : Tr → Bool
  | .agg l => sizedL l
  | .tup l => sizedL l
  | .sl _ l => decide (l.length ≤ 9223372036854775807) && sizedL l
  | .fn _ l => sizedL l
  | _ => true
def sizedL : List Tr → Bool
  | [] => true
  | x :: r => x.sized && sizedL r
end
theorem sizedL_mem {l : List Tr} : sizedL l = true ↔ ∀ x ∈ l, x.sized = true := by
  induction l with
  | nil => simp [sizedL]
  | cons a l ih => simp [sizedL, ih]
theorem sized_of_cells {x : Tr} (hx : ∀ y ∈ x.cells, y.sized = true) (h : ∀ l, x = .agg l → x.cells = l) : x.sized = true := by
  cases x with
  | agg l => simp only [Tr.sized, sizedL_mem]; exact hx
  | _ => exact hx _ (by simp [Tr.cells])
theorem mem_flat {l : List Tr} {x y : Tr} (hx : x ∈ l) (hy : y ∈ x.cells) : y ∈ flat l := List.mem_flatMap.2 ⟨x, hx, hy⟩
theorem Reads.sized {w : World} {L : Nat → Prop} {x : Tr} {v : Value} (hr : Reads w L x v) : x.sized = true := by
  induction hr with
  | agg hl h ih => simp only [Tr.sized, sizedL_mem]; intro x hx; obtain ⟨i, hi⟩ := List.mem_iff_getElem?.1 hx; exact ih i x hi
  | tup hl h ih => simp only [Tr.sized, sizedL_mem]; intro x hx; obtain ⟨i, hi⟩ := List.mem_iff_getElem?.1 hx; exact ih i x hi
  | fn hl h ih => simp only [Tr.sized, sizedL_mem]; intro x hx; obtain ⟨i, hi⟩ := List.mem_iff_getElem?.1 hx; exact ih i x hi
  | @sl l a cap esz vals hs hc hm he hcell h ih =>
    simp only [Tr.sized, Bool.and_eq_true, decide_eq_true_eq, sizedL_mem]
    refine ⟨Nat.le_trans hc (by simpa [maxLen] using hm), fun x hx => sized_of_cells (fun y hy => ?_) (fun l e => by subst e; rfl)⟩
    obtain ⟨i, hi⟩ := List.mem_iff_getElem?.1 (mem_flat hx hy)
    exact ih i y hi
  | nil => rfl
  | _ => rfl
theorem dcall_sized {g : FuncId} {args : List Tr} {x : Tr} (he : Enters P g) (hd : sizedL args = true → DCall P g args x) : DCall P g args x := by
  refine ⟨he, fun w A vs hA hr => ?_⟩
  refine (hd (sizedL_mem.2 fun y hy => ?_)).2 w A vs hA hr
  obtain ⟨i, hi⟩ := List.mem_iff_getElem?.1 hy
  exact (hr.2 i y hi).sized
theorem dcall_mk {g : FuncId} {fn : Func} {c : Code} {args : List Tr} {x : Tr} (hm : P.follows .mixedOrders = true) (hf : P.funcs[g]? = some fn) (hb : fn.body = some c) (hname : (fn.name == "runtime.NumGoroutine") = false)
    (mu : Nat → Bool) (hok : codeOK mu fn.ntmps c = true) (hn : Nat.ble args.length fn.ntmps = true) (hw : sizedL args = true → kont P mu (endK P fn x) [.code c] .normal (initSt args)) : DCall P g args x :=
  dcall_sized ⟨fn, hf, hname, by simp [hb]⟩ fun hs => dcall_of_wp hm hf hb hname mu hok (Nat.le_of_ble_eq_true hn) (by rw [kont_start]; exact hw hs)
attribute [go_sem] sizedL Tr.sized
def elemOK (ag : Bool) (esz : Nat) (x : Tr) : Prop := (ag = true → x = .agg x.cells) ∧ (ag = false → x.cells = [x]) ∧ x.cells.length = esz
structure Own (h : Hp) (site : Nat) (e : TypeId) (esz : Nat) (ag : Bool) (v : PV) (nn : Bool) (l : List Tr) : Prop where
  ok : ∀ x ∈ l, elemOK ag esz x
  is : (nn = false ∧ l = [] ∧ v = .t (.sl false [])) ∨ (nn = true ∧ ∃ id : Id, id.1 = site ∧ v = .rf id l.length ∧ hget h id = some ⟨(flat l).map .t, esz, l.length, e, ag, true⟩)
theorem Own.nil {site : Nat} {e : TypeId} {esz : Nat} {ag : Bool} : Own h site e esz ag (.t (.sl false [])) false [] := ⟨fun _ h => by simp at h, .inl ⟨rfl, rfl, rfl⟩⟩
theorem Own.frame {h' : Hp} {site : Nat} {e : TypeId} {esz : Nat} {ag nn : Bool} {v : PV} {l : List Tr} (ho : Own h site e esz ag v nn l) (hs : h' site = h site) : Own h' site e esz ag v nn l := by
  refine ⟨ho.ok, ?_⟩
  rcases ho.is with h1 | ⟨h0, id, h1, h2, h3⟩
  · exact .inl h1
  · refine .inr ⟨h0, id, h1, h2, ?_⟩
    unfold hget at h3 ⊢
    rw [h1, hs, ← h1]; exact h3
theorem flat_append (a b : List Tr) : flat (a ++ b) = flat a ++ flat b := by simp [flat]
theorem flat_len {ag : Bool} {esz : Nat} {l : List Tr} (hl : ∀ x ∈ l, elemOK ag esz x) : (flat l).length = l.length * esz := flat_length l esz fun x hx => (hl x hx).2.2
theorem chunk_flat {esz : Nat} : ∀ {l : List Tr}, (∀ x ∈ l, elemOK true esz x) → chunk esz l.length (flat l) = l
  | [], _ => rfl
  | a :: l, hl => by
    have ha := hl a (by simp)
    have ih := chunk_flat (fun x hx => hl x (List.mem_cons_of_mem _ hx))
    simp only [flat] at ih
    simp only [List.length_cons, chunk, flat, List.flatMap_cons]
    rw [List.take_left' ha.2.2, List.drop_left' ha.2.2, ih, ← ha.1 rfl]
theorem elems_flat {ag : Bool} {esz : Nat} {l : List Tr} (hl : ∀ x ∈ l, elemOK ag esz x) : elems ag esz l.length (flat l) = l := by
  cases ag with
  | true => exact chunk_flat hl
  | false => exact flat_one l fun x hx => (hl x hx).2.1 rfl
theorem toTr_rf' (k : Nat) (id : Id) (n : Nat) : toTr h (k + 1) (.rf id n) = (match hget h id with | some o => if o.len = n then (match mapO (toTr h k) o.cs with | some ts => some (.sl true (elems o.ag o.esz o.len ts)) | none => none) else none | none => none) := rfl
theorem Own.toTr {site : Nat} {e : TypeId} {esz : Nat} {ag nn : Bool} {v : PV} {l : List Tr} (ho : Own h site e esz ag v nn l) (k : Nat) : toTr h (k + 1) v = some (.sl nn l) := by
  rcases ho.is with ⟨h0, h1, h2⟩ | ⟨h0, id, h1, h2, h3⟩
  · subst h0; subst h1; subst h2; rfl
  · subst h2; subst h0
    rw [toTr_rf', h3]
    simp only [if_true, mapO_t, elems_flat ho.ok]
theorem Own.dep {site : Nat} {e : TypeId} {esz : Nat} {ag nn : Bool} {v : PV} {l : List Tr} (ho : Own h site e esz ag v nn l) : Go.Vm.toTr h dep v = some (.sl nn l) := ho.toTr 5
theorem Own.one {site : Nat} {e : TypeId} {esz : Nat} {ag nn : Bool} {v : PV} {l : List Tr} (ho : Own h site e esz ag v nn l) : v.one = true ∧ v.cells = [v] := by
  rcases ho.is with ⟨_, _, rfl⟩ | ⟨_, _, _, rfl, _⟩ <;> exact ⟨rfl, rfl⟩
theorem Own.len {site : Nat} {e : TypeId} {esz : Nat} {ag nn : Bool} {v : PV} {l : List Tr} (ho : Own h site e esz ag v nn l) : lenX false true h v = some (.t (.int .i64 l.length)) := by
  rcases ho.is with ⟨_, rfl, rfl⟩ | ⟨_, id, _, rfl, h3⟩
  · rfl
  · simp [lenX, lenPV, valid, h3]
@[go_sem] theorem hnew_site {s' d : Nat} (o : Obj) (hd : (d == s') = false) : hnew h s' o d = h d := by
  unfold hnew upd
  rw [if_neg (by simpa using hd)]
theorem hset_site {id : Id} {d : Nat} (o : Obj) (hd : (d == id.1) = false) : hset h id o d = h d := by
  unfold hset upd
  rw [if_neg (by simpa using hd)]
theorem append_own {d : Nat} {t e : TypeId} {esz : Nat} {ag nn nn' : Bool} {v : PV} {l xs : List Tr} (hmu : mu d = true) (hel : elemB P t = some e) (hsz : P.cellsOf e = esz) (hpos : 0 < esz) (hz : ∃ z, zeroB P e = some z ∧ z.length = esz) (hag : aggB P e = some ag) (h1 : ag = true ∨ esz = 1)
    (ho : Own h d e esz ag v nn l) (hx : ∀ x ∈ xs, elemOK ag esz x) (hb : (l.length + xs.length) * P.bytesOf e ≤ 140737488355328 ∧ l.length + xs.length ≤ 4611686018427387904) :
    ∃ v' h', appendPV P mu (some d) t v (.t (.sl nn' xs)) h = some (v', h') ∧ Own h' d e esz ag v' (nn || !xs.isEmpty) (l ++ xs) ∧ ∀ site, (site == d) = false → h' site = h site := by
  obtain ⟨z, hz1, hz2⟩ := hz
  have hfl : (flat xs).length = xs.length * esz := flat_len hx
  have hsrc : srcPV P e (.t (.sl nn' xs)) h = some (xs.length, (flat xs).map .t) := by
    simp only [srcPV, hfl, hsz, if_true]
  have hempty : xs.length = 0 ↔ xs = [] := by constructor <;> intro h <;> simp_all
  unfold appendPV
  simp only [hel, hz1, hsrc, hz2, hsz, hpos, and_self, if_true]
  rcases ho.is with ⟨h0, h2, h3⟩ | ⟨h0, id, h2, h3, h4⟩
  · subst h2; subst h3; subst h0
    simp only
    by_cases hx0 : xs.length = 0
    · rw [if_pos hx0]
      have := hempty.1 hx0; subst this
      exact ⟨_, _, rfl, Own.nil, fun _ _ => rfl⟩
    · rw [if_neg hx0, if_pos ⟨trivial, by simpa using hb.1, by simpa using hb.2⟩]
      have hne : xs ≠ [] := fun e => hx0 (hempty.2 e)
      refine ⟨.rf (hnext h d) xs.length, hnew h d ⟨(flat xs).map .t, esz, xs.length, e, ag, true⟩, ?_, ⟨by simpa using hx, .inr ⟨by cases xs <;> simp_all, hnext h d, rfl, by simp, by rw [hget_new]; simp⟩⟩, fun site hs => hnew_site _ hs⟩
      · unfold newRowPV
        simp only [hag, hsz, hmu, if_true]
        rw [if_neg]
        rintro ⟨h5, h6⟩
        rcases h1 with h1 | h1
        · rw [h5] at h1; cases h1
        · exact h6 h1
  · subst h3; subst h0
    simp only [h4, Bool.true_or]
    rw [if_pos ⟨trivial, trivial, trivial, trivial, by simpa using hb.1, by simpa using hb.2⟩]
    by_cases hx0 : xs.length = 0
    · rw [if_pos hx0]
      have := hempty.1 hx0; subst this
      refine ⟨_, _, rfl, ?_, fun _ _ => rfl⟩
      simpa using ho
    · rw [if_neg hx0]
      refine ⟨_, _, rfl, ⟨fun x hx' => (List.mem_append.1 hx').elim (ho.ok x) (hx x), .inr ⟨rfl, id, h2, by simp, ?_⟩⟩, fun site hs => hset_site _ (by rw [h2]; exact hs)⟩
      rw [hget_hset, if_pos rfl, h4]
      simp [flat_append]
theorem hpK_append {d : Nat} {t e : TypeId} {esz : Nat} {ag nn nn' : Bool} {v : PV} {l xs : List Tr} (ho : Own h d e esz ag v nn l) (hmu : mu d = true) (hel : elemB P t = some e) (hsz : P.cellsOf e = esz) (hz : (zeroB P e).map List.length = some esz) (hag : aggB P e = some ag) (h1 : (Nat.blt 0 esz && (ag || esz == 1)) = true)
    (hby : Nat.ble (P.bytesOf e) 128 = true) (hx : ∀ x ∈ xs, elemOK ag esz x) (hb : l.length + xs.length ≤ 1099511627776)
    (hk : ∀ v' h', Own h' d e esz ag v' (nn || !xs.isEmpty) (l ++ xs) → (∀ site, (site == d) = false → h' site = h site) → kont P mu F r .normal ⟨upd s.sl d v', h'⟩) :
    hpK P mu F (appendPV P mu (some d) t v (.t (.sl nn' xs)) h) (some d) r s := by
  simp only [Bool.and_eq_true, Bool.or_eq_true, beq_iff_eq] at h1
  obtain ⟨v', h', h2, h3, h4⟩ := append_own (nn' := nn') hmu hel hsz (by have := h1.1; simp [Nat.blt] at this; omega) (by
    cases hzz : zeroB P e with
    | none => rw [hzz] at hz; cases hz
    | some z => rw [hzz] at hz; exact ⟨z, rfl, by simpa using hz⟩) hag h1.2 ho hx ⟨by
      have := Nat.mul_le_mul hb (Nat.le_of_ble_eq_true hby); omega, by omega⟩
  rw [h2, hpK_some]
  exact hk v' h' h3 h4
theorem Own.snoc {α : Type} {f : α → Tr} {xs : List α} {a : α} {d : Nat} {e : TypeId} {esz : Nat} {ag nn : Bool} {v : PV} (ho : Own h d e esz ag v (nn || !([f a] : List Tr).isEmpty) (xs.map f ++ [f a])) : Own h d e esz ag v (!(xs ++ [a]).isEmpty) ((xs ++ [a]).map f) := by
  have e1 : (!(xs ++ [a]).isEmpty) = (nn || !([f a] : List Tr).isEmpty) := by cases xs <;> simp
  rw [e1, List.map_append]; exact ho
theorem ok_int (k : IntKind) (n : Int) : ∀ x ∈ [Tr.int k n], elemOK false 1 x := by intro x hx; simp at hx; subst hx; exact ⟨(fun h => nomatch h), fun _ => rfl, rfl⟩
theorem append_any {d site : Nat} {t e : TypeId} {esz : Nat} {ag nn' : Bool} {v : PV} {l xs : List Tr} (hel : elemB P t = some e) (hsz : P.cellsOf e = esz) (hpos : 0 < esz) (hz : ∃ z, zeroB P e = some z ∧ z.length = esz)
    (ho : Own h site e esz ag v true l) (hx : ∀ x ∈ xs, elemOK ag esz x) (hb : (l.length + xs.length) * P.bytesOf e ≤ 140737488355328 ∧ l.length + xs.length ≤ 4611686018427387904) :
    ∃ v' h', appendPV P mu (some d) t v (.t (.sl nn' xs)) h = some (v', h') ∧ Own h' site e esz ag v' true (l ++ xs) ∧ ∀ s', (s' == site) = false → h' s' = h s' := by
  obtain ⟨z, hz1, hz2⟩ := hz
  have hfl : (flat xs).length = xs.length * esz := flat_len hx
  have hsrc : srcPV P e (.t (.sl nn' xs)) h = some (xs.length, (flat xs).map .t) := by
    simp only [srcPV, hfl, hsz, if_true]
  have hempty : xs.length = 0 ↔ xs = [] := by constructor <;> intro h <;> simp_all
  unfold appendPV
  simp only [hel, hz1, hsrc, hz2, hsz, hpos, and_self, if_true]
  rcases ho.is with ⟨h0, h2, h3⟩ | ⟨h0, id, h2, h3, h4⟩
  · cases h0
  · subst h3
    simp only [h4]
    rw [if_pos ⟨trivial, trivial, trivial, trivial, by simpa using hb.1, by simpa using hb.2⟩]
    by_cases hx0 : xs.length = 0
    · rw [if_pos hx0]
      have := hempty.1 hx0; subst this
      refine ⟨_, _, rfl, ?_, fun _ _ => rfl⟩
      simpa using ho
    · rw [if_neg hx0]
      refine ⟨_, _, rfl, ⟨fun x hx' => (List.mem_append.1 hx').elim (ho.ok x) (hx x), .inr ⟨rfl, id, h2, by simp, ?_⟩⟩, fun s' hs => hset_site _ (by rw [h2]; exact hs)⟩
      rw [hget_hset, if_pos rfl, h4]
      simp [flat_append]
theorem hpK_append_any {d site : Nat} {t e : TypeId} {esz : Nat} {ag nn' : Bool} {v : PV} {l xs : List Tr} (ho : Own h site e esz ag v true l) (hel : elemB P t = some e) (hsz : P.cellsOf e = esz) (hz : (zeroB P e).map List.length = some esz) (h1 : Nat.blt 0 esz = true)
    (hby : Nat.ble (P.bytesOf e) 128 = true) (hx : ∀ x ∈ xs, elemOK ag esz x) (hb : l.length + xs.length ≤ 1099511627776)
    (hk : ∀ v' h', Own h' site e esz ag v' true (l ++ xs) → (∀ s', (s' == site) = false → h' s' = h s') → kont P mu F r .normal ⟨upd s.sl d v', h'⟩) :
    hpK P mu F (appendPV P mu (some d) t v (.t (.sl nn' xs)) h) (some d) r s := by
  obtain ⟨v', h', h2, h3, h4⟩ := append_any (mu := mu) (d := d) (nn' := nn') hel hsz (by simp [Nat.blt] at h1; omega) (by
    cases hzz : zeroB P e with
    | none => rw [hzz] at hz; cases hz
    | some z => rw [hzz] at hz; exact ⟨z, rfl, by simpa using hz⟩) ho hx ⟨by
      have := Nat.mul_le_mul hb (Nat.le_of_ble_eq_true hby); omega, by omega⟩
  rw [h2, hpK_some]
  exact hk v' h' h3 h4
theorem Own.fresh {d : Nat} {e : TypeId} {esz : Nat} {ag : Bool} {l : List Tr} (hl : ∀ x ∈ l, elemOK ag esz x) : Own (hnew h d ⟨(flat l).map .t, esz, l.length, e, ag, true⟩) d e esz ag (.rf (hnext h d) l.length) true l :=
  ⟨hl, .inr ⟨rfl, _, rfl, rfl, hget_new _ _⟩⟩
mutual
def Tr.wf : Tr → Bool
  | .agg l => wfL l
  | .tup l => wfL l
  | .sl nn l => (nn || l.isEmpty) && wfL l
  | .fn _ l => wfL l
  | .ptr l => wfL l
  | _ => true
def wfL : List Tr → Bool
  | [] => true
  | x :: r => x.wf && wfL r
end
theorem wfL_mem {l : List Tr} : wfL l = true ↔ ∀ x ∈ l, x.wf = true := by
  induction l with
  | nil => simp [wfL]
  | cons a l ih => simp [wfL, ih]
theorem Reads.wf {w : World} {L : Nat → Prop} {x : Tr} {v : Value} (hr : Reads w L x v) : x.wf = true := by
  induction hr with
  | agg hl h ih => simp only [Tr.wf, wfL_mem]; intro x hx; obtain ⟨i, hi⟩ := List.mem_iff_getElem?.1 hx; exact ih i x hi
  | tup hl h ih => simp only [Tr.wf, wfL_mem]; intro x hx; obtain ⟨i, hi⟩ := List.mem_iff_getElem?.1 hx; exact ih i x hi
  | fn hl h ih => simp only [Tr.wf, wfL_mem]; intro x hx; obtain ⟨i, hi⟩ := List.mem_iff_getElem?.1 hx; exact ih i x hi
  | ptr hs hcell h ih => simp only [Tr.wf, wfL_mem]; intro x hx; obtain ⟨i, hi⟩ := List.mem_iff_getElem?.1 hx; exact ih i x hi
  | @sl l a cap esz vals hs hc hm he hcell h ih =>
    simp only [Tr.wf, Bool.true_or, Bool.true_and, wfL_mem]
    intro x hx
    have key : ∀ y ∈ x.cells, y.wf = true := fun y hy => by
      obtain ⟨i, hi⟩ := List.mem_iff_getElem?.1 (mem_flat hx hy)
      exact ih i y hi
    cases x with
    | agg l => simp only [Tr.wf, wfL_mem]; exact key
    | _ => exact key _ (by simp [Tr.cells])
  | nil => rfl
  | _ => rfl
theorem dcall_wf {g : FuncId} {args : List Tr} {x : Tr} (he : Enters P g) (hd : wfL args = true → DCall P g args x) : DCall P g args x := by
  refine ⟨he, fun w A vs hA hr => ?_⟩
  refine (hd (wfL_mem.2 fun y hy => ?_)).2 w A vs hA hr
  obtain ⟨i, hi⟩ := List.mem_iff_getElem?.1 hy
  exact (hr.2 i y hi).wf
theorem toTr_ints {id : Id} {l : List Tr} {esz n : Nat} {e : TypeId} {lv : Bool} (k : Nat) (hg : hget h id = some ⟨l.map .t, esz, n, e, false, lv⟩) : toTr h (k + 1) (.rf id n) = some (.sl true l) := by
  rw [toTr_rf', hg]; simp only [if_true, mapO_t]; rfl
def slcX (c : Option Nat) (fl : Nat) (nn : Bool) (l : List Tr) (a b : Option Int) (h : Hp) : Option (PV × Hp) := match c, a, b with
  | some c, some a, some b => if fl = l.length * c ∧ 0 ≤ a ∧ a ≤ b ∧ b ≤ l.length then some (.t (.sl nn ((l.take b.toNat).drop a.toNat)), h) else none
  | _, _, _ => none
@[go_sem] theorem slicePV_sl (t : TypeId) (nn : Bool) (l : List Tr) (lo hi : Option PV) : slicePV P t (.t (.sl nn l)) lo hi h = slcX ((elemB P t).map P.cellsOf) (flat l).length nn l (lo.elim (some 0) intOf) (hi.elim (some (l.length : Int)) intOf) h := by
  simp only [slicePV, slcX]
  cases elemB P t with
  | none => rfl
  | some e =>
    simp only [Option.map_some]
    cases lo.elim (some 0) intOf <;> cases hi.elim (some (l.length : Int)) intOf <;> simp only <;> (try (split <;> rfl))
    rename_i a b
    by_cases h1 : (flat l).length = l.length * P.cellsOf e
    · rw [if_pos h1]
      by_cases h2 : 0 ≤ a ∧ a ≤ b ∧ b ≤ l.length
      · rw [if_pos h2, if_pos ⟨h1, h2⟩]
      · rw [if_neg h2, if_neg (fun h3 => h2 h3.2)]
    · rw [if_neg h1, if_neg (fun h3 => h1 h3.1)]
@[go_sem] theorem slcX_some (c : Nat) (fl : Nat) (nn : Bool) (l : List Tr) (a b : Int) : slcX (some c) fl nn l (some a) (some b) h = if fl = l.length * c ∧ 0 ≤ a ∧ a ≤ b ∧ b ≤ l.length then some (.t (.sl nn ((l.take b.toNat).drop a.toNat)), h) else none := nrfl rfl
@[go_sem] theorem intOf_int (k : IntKind) (n : Int) : intOf (.t (.int k n)) = some n := nrfl rfl
attribute [go_sem] Option.elim_some Option.elim_none
@[go_sem] theorem flat_ints (k : IntKind) (l : List Int) : flat (l.map (Tr.int k)) = l.map (Tr.int k) := flat_one _ (by simp [Tr.cells])
theorem hpK_if {c : Prop} [Decidable c] {x : PV × Hp} {d : Option Tmp} (hc : c) (hk : hpK P mu F (some x) d r s) : hpK P mu F (if c then some x else none) d r s := by rw [if_pos hc]; exact hk
@[go_sem] theorem hget_set_same (id : Id) (o : Obj) : hget (hset h id o) id = (hget h id).map fun _ => o := by
  rw [hget_hset, if_pos rfl]; cases hget h id <;> rfl
@[go_sem] theorem hget_set_ne {id id' : Id} (o : Obj) (hn : (id'.1 == id.1) = false) : hget (hset h id o) id' = hget h id' := by
  rw [hget_hset, if_neg]; intro e; subst e; simp at hn
@[go_sem] theorem hget_new_lit {a b s' : Nat} (o : Obj) (hn : (a == s') = false) : hget (hnew h s' o) (a, b) = hget h (a, b) := by
  refine hget_new_ne ?_; simpa using hn
attribute [go_sem] hset_site
theorem hget_site {h' : Hp} {id : Id} (hs : h' id.1 = h id.1) : hget h' id = hget h id := by unfold hget; rw [hs]
end
end Go.Vm
end
section
set_option linter.unusedSimpArgs false
namespace Go.Vm
open Go Go.Proofs
namespace YtihgdplbehempaaGreat
open Go.Proofs.Tryz
abbrev noMu : Nat → Bool := fun _ => false
abbrev i64 (n : Int) : Tr := .int .i64 n
theorem orders : Tryz.prog.follows .mixedOrders = true := by kernel_rfl
attribute [go_sem] Tryz.results149 Tryz.results71 Tryz.results54 Tryz.results124 Tryz.results103 Tryz.results173 Tryz.results93 Tryz.results131 Tryz.results205 Tryz.results133 Tryz.results206 Tryz.results132 Tryz.results207 Tryz.results135 Tryz.results238 Tryz.results239 Tryz.results196 Tryz.results119 Tryz.results64
structure Row where
  nn : Bool
  coefs : List Int
  const : Int
def Row.tr (r : Row) : Tr := .agg [.sl r.nn (r.coefs.map (Tr.int .i64)), .int .i64 r.const]
structure Upd where
  any : Bool
  expr : Row
def Upd.tr (u : Upd) : Tr := .agg [.bool u.any, .sl u.expr.nn (u.expr.coefs.map (Tr.int .i64)), .int .i64 u.expr.const]
structure Trans where
  from_ : Int
  to_ : Int
  gnn : Bool
  guard : List Row
  nnn : Bool
  next : List Upd
def Trans.tr (t : Trans) : Tr := .agg [.int .i64 t.from_, .int .i64 t.to_, .sl t.gnn (t.guard.map Row.tr), .sl t.nnn (t.next.map Upd.tr)]
structure Flow where
  vars : Int
  locs : Int
  start : Int
  tnn : Bool
  trans : List Trans
def Flow.cs (f : Flow) : List Tr := [.int .i64 f.vars, .int .i64 f.locs, .int .i64 f.start, .sl f.tnn (f.trans.map Trans.tr)]
def Flow.tr (f : Flow) : Tr := .agg f.cs
structure State where
  loc : Int
  vnn : Bool
  vals : List Int
def State.cs (s : State) : List Tr := [.int .i64 s.loc, .sl s.vnn (s.vals.map (Tr.int .i64))]
def State.tr (s : State) : Tr := .agg s.cs
attribute [go_sem] Row.tr Upd.tr Trans.tr Flow.tr Flow.cs State.tr State.cs
def smallB (k : Int) : Bool := decide (k ≥ -1048576) && decide (k ≤ 1048576)
theorem small_d (k : Int) : DCall Tryz.prog 149 [i64 k] (.bool (smallB k)) := by
  refine dcall_mk orders Tryz.func149 rfl (by kernel_rfl) noMu (by kernel_rfl) rfl (fun hs => ?_)
  repeat' (first
    | (with_reducible first | refine sA ?_ ?_ | refine sB ?_ ?_ | refine sC ?_ ?_ | refine sD ?_ ?_ | refine sE ?_ ?_ | refine sF ?_ ?_) <;> intro h
    | simp only [go_sem, *, smallB])
def rightB (vars : Int) (r : Row) : Bool := !((r.coefs.length : Int) != vars) && (smallB r.const && r.coefs.all smallB)
theorem right_d (vars : Int) (r : Row) : DCall Tryz.prog 71 [i64 vars, r.tr] (.bool (rightB vars r)) := by
  refine dcall_mk orders Tryz.func71 rfl (by kernel_rfl) noMu (by kernel_rfl) rfl (fun hs => ?_)
  simp [sizedL, Tr.sized, Row.tr] at hs
  repeat' (first
    | (with_reducible first | refine sA ?_ ?_ | refine sB ?_ ?_ | refine sC ?_ ?_ | refine sD ?_ ?_ | refine sE ?_ ?_ | refine sF ?_ ?_) <;> intro h
    | refine clK_mk (small_d _) rfl ?_
    | simp only [go_sem, *])
  · simp_all [rightB]
  · refine loop_range r.coefs (fun k s' => r.coefs.all smallB = (r.coefs.drop k).all smallB) rfl rfl (by first | assumption | omega) (by kernel_rfl) (fun _ _ _ _ hj => hj) (fun _ _ _ hj => hj) ?_ (fun k x s' hx hd hk hJ hix hfr G hG => ?_) (fun s' hJ hfr => ?_)
    · rfl
    · have c19 := hfr 19 (by kernel_rfl)
      clear hfr
      simp only [go_sem] at c19
      rw [hd, List.all_cons] at hJ
      repeat' (first
        | (with_reducible first | refine sA ?_ ?_ | refine sB ?_ ?_ | refine sC ?_ ?_ | refine sD ?_ ?_ | refine sE ?_ ?_ | refine sF ?_ ?_) <;> intro h
        | refine clK_mk (small_d _) rfl ?_
        | simp only [go_sem, *])
      try any_goals (refine congrArg some ?_; first | rfl | (simp only [go_sem, rightB, *]; done) | (simp only [go_sem, rightB, *]; rfl) | (simp_all [rightB]; done))
      try any_goals (refine hG _ ?_; simp only [go_sem, rightB, *]; done)
    · repeat' (first
        | (with_reducible first | refine sA ?_ ?_ | refine sB ?_ ?_ | refine sC ?_ ?_ | refine sD ?_ ?_ | refine sE ?_ ?_ | refine sF ?_ ?_) <;> intro h
        | simp only [go_sem, *])
      simp_all [rightB]
  · simp_all [rightB]
def wordB (x : Int) : Bool := decide (x ≥ -274877906944) && decide (x ≤ 274877906944)
def updB (vars : Int) (u : Upd) : Bool := if u.any then !(decide ((u.expr.coefs.length : Int) > 0) || u.expr.const != 0) else rightB vars u.expr
def transErr (f : Flow) (t : Trans) : Int :=
  if decide (t.from_ < 0) || decide (t.from_ ≥ f.locs) || decide (t.to_ < 0) || decide (t.to_ ≥ f.locs) then 8
  else if decide ((t.guard.length : Int) > 16) then 3
  else if !(t.guard.all (rightB f.vars)) then 2
  else if (t.next.length : Int) != f.vars then 2
  else if t.next.all (updB f.vars) then 0 else 2
def flowGo (f : Flow) : List Trans → Int
  | [] => 0
  | t :: r => if transErr f t != 0 then transErr f t else flowGo f r
def flowErr (f : Flow) : Int :=
  if decide (f.vars < 0) || decide (f.vars > 8) || decide (f.locs < 1) || decide (f.locs > 16) || decide (f.start < 0) || decide (f.start ≥ f.locs) then 2
  else if decide ((f.trans.length : Int) > 32) then 3
  else flowGo f f.trans
def idxFrom {α : Type} (p : α → Bool) : Nat → List α → Int
  | _, [] => -1
  | k, x :: r => if p x then k else idxFrom p (k + 1) r
theorem idxFrom_any {α : Type} (p : α → Bool) : ∀ (l : List α) (k : Nat), decide (idxFrom p k l ≥ 0) = l.any p
  | [], k => by simp [idxFrom]
  | x :: r, k => by
    simp only [idxFrom, List.any_cons]
    by_cases hp : p x = true
    · simp [hp]
    · have := idxFrom_any p r (k + 1)
      simp_all
theorem indexInts_d (nn : Bool) (l : List Int) (g : FuncId) (caps : List Tr) (p : Int → Bool) (hp : ∀ x ∈ l, DCall Tryz.prog g (i64 x :: caps) (.bool (p x))) :
    DCall Tryz.prog 205 [.sl nn (l.map (Tr.int .i64)), .fn g caps] (i64 (idxFrom p 0 l)) := by
  refine dcall_mk orders Tryz.func205 rfl (by kernel_rfl) noMu (by kernel_rfl) rfl (fun hs => ?_)
  simp [sizedL, Tr.sized] at hs
  obtain ⟨hs1, _⟩ := hs
  repeat' (first
    | (with_reducible first | refine sA ?_ ?_ | refine sB ?_ ?_ | refine sC ?_ ?_ | refine sD ?_ ?_ | refine sE ?_ ?_ | refine sF ?_ ?_) <;> intro h
    | simp only [go_sem, *])
  refine loop_range l (fun k s' => idxFrom p 0 l = idxFrom p k (l.drop k)) rfl rfl (by first | assumption | omega) (by kernel_rfl) (fun _ _ _ _ hj => hj) (fun _ _ _ hj => hj) ?_ (fun k x s' hx hd hk hJ hix hfr G hG => ?_) (fun s' hJ hfr => ?_)
  · rfl
  · have c0 := hfr 0 (by kernel_rfl)
    have c1 := hfr 1 (by kernel_rfl)
    clear hfr
    simp only [go_sem] at c0 c1
    rw [hd, idxFrom] at hJ
    repeat' (first
      | (with_reducible first | refine sA ?_ ?_ | refine sB ?_ ?_ | refine sC ?_ ?_ | refine sD ?_ ?_ | refine sE ?_ ?_ | refine sF ?_ ?_) <;> intro h
      | refine clK_mk (hp x (List.mem_of_getElem? hx)) rfl ?_
      | simp only [go_sem, *])
    try any_goals (refine congrArg some ?_; first | rfl | (simp only [go_sem, idxFrom, *]; done) | (simp only [go_sem, idxFrom, *]; rfl) | (simp_all [idxFrom]; done))
    try any_goals (refine hG _ ?_; simp only [go_sem, idxFrom, *]; done)
  · simp only [List.drop_length, idxFrom] at hJ
    repeat' (first
      | (with_reducible first | refine sA ?_ ?_ | refine sB ?_ ?_ | refine sC ?_ ?_ | refine sD ?_ ?_ | refine sE ?_ ?_ | refine sF ?_ ?_) <;> intro h
      | simp only [go_sem, *])
theorem containsInts_d (nn : Bool) (l : List Int) (g : FuncId) (caps : List Tr) (p : Int → Bool) (hp : ∀ x ∈ l, DCall Tryz.prog g (i64 x :: caps) (.bool (p x))) :
    DCall Tryz.prog 131 [.sl nn (l.map (Tr.int .i64)), .fn g caps] (.bool (l.any p)) := by
  refine dcall_mk orders Tryz.func131 rfl (by kernel_rfl) noMu (by kernel_rfl) rfl (fun hs => ?_)
  rw [← idxFrom_any p l 0]
  repeat' (first
    | (with_reducible first | refine sA ?_ ?_ | refine sB ?_ ?_ | refine sC ?_ ?_ | refine sD ?_ ?_ | refine sE ?_ ?_ | refine sF ?_ ?_) <;> intro h
    | refine clK_mk (indexInts_d nn l g caps p hp) rfl ?_
    | simp only [go_sem, *])
theorem indexRows_d (nn : Bool) (l : List Row) (g : FuncId) (caps : List Tr) (p : Row → Bool) (hp : ∀ x ∈ l, DCall Tryz.prog g (x.tr :: caps) (.bool (p x))) :
    DCall Tryz.prog 206 [.sl nn (l.map Row.tr), .fn g caps] (i64 (idxFrom p 0 l)) := by
  refine dcall_mk orders Tryz.func206 rfl (by kernel_rfl) noMu (by kernel_rfl) rfl (fun hs => ?_)
  simp [sizedL, Tr.sized] at hs
  obtain ⟨⟨hs1, _⟩, _⟩ := hs
  repeat' (first
    | (with_reducible first | refine sA ?_ ?_ | refine sB ?_ ?_ | refine sC ?_ ?_ | refine sD ?_ ?_ | refine sE ?_ ?_ | refine sF ?_ ?_) <;> intro h
    | simp only [go_sem, *])
  refine loop_range l (fun k s' => idxFrom p 0 l = idxFrom p k (l.drop k)) rfl rfl (by first | assumption | omega) (by kernel_rfl) (fun _ _ _ _ hj => hj) (fun _ _ _ hj => hj) ?_ (fun k x s' hx hd hk hJ hix hfr G hG => ?_) (fun s' hJ hfr => ?_)
  · rfl
  · have c0 := hfr 0 (by kernel_rfl)
    have c1 := hfr 1 (by kernel_rfl)
    clear hfr
    simp only [go_sem] at c0 c1
    rw [hd, idxFrom] at hJ
    repeat' (first
      | (with_reducible first | refine sA ?_ ?_ | refine sB ?_ ?_ | refine sC ?_ ?_ | refine sD ?_ ?_ | refine sE ?_ ?_ | refine sF ?_ ?_) <;> intro h
      | refine clK_mk (hp x (List.mem_of_getElem? hx)) rfl ?_
      | simp only [go_sem, *])
    try any_goals (refine congrArg some ?_; first | rfl | (simp only [go_sem, idxFrom, *]; done) | (simp only [go_sem, idxFrom, *]; rfl) | (simp_all [idxFrom]; done))
    try any_goals (refine hG _ ?_; simp only [go_sem, idxFrom, *]; done)
  · simp only [List.drop_length, idxFrom] at hJ
    repeat' (first
      | (with_reducible first | refine sA ?_ ?_ | refine sB ?_ ?_ | refine sC ?_ ?_ | refine sD ?_ ?_ | refine sE ?_ ?_ | refine sF ?_ ?_) <;> intro h
      | simp only [go_sem, *])
theorem containsRows_d (nn : Bool) (l : List Row) (g : FuncId) (caps : List Tr) (p : Row → Bool) (hp : ∀ x ∈ l, DCall Tryz.prog g (x.tr :: caps) (.bool (p x))) :
    DCall Tryz.prog 133 [.sl nn (l.map Row.tr), .fn g caps] (.bool (l.any p)) := by
  refine dcall_mk orders Tryz.func133 rfl (by kernel_rfl) noMu (by kernel_rfl) rfl (fun hs => ?_)
  rw [← idxFrom_any p l 0]
  repeat' (first
    | (with_reducible first | refine sA ?_ ?_ | refine sB ?_ ?_ | refine sC ?_ ?_ | refine sD ?_ ?_ | refine sE ?_ ?_ | refine sF ?_ ?_) <;> intro h
    | refine clK_mk (indexRows_d nn l g caps p hp) rfl ?_
    | simp only [go_sem, *])
theorem far_d (k : Int) : DCall Tryz.prog 207 [i64 k] (.bool (!smallB k)) := by
  rw [show (!smallB k) = (decide (k < -1048576) || decide (k > 1048576)) by rw [Bool.eq_iff_iff]; simp [smallB]]
  refine dcall_mk orders Tryz.func207 rfl (by kernel_rfl) noMu (by kernel_rfl) rfl (fun hs => ?_)
  repeat' (first
    | (with_reducible first | refine sA ?_ ?_ | refine sB ?_ ?_ | refine sC ?_ ?_ | refine sD ?_ ?_ | refine sE ?_ ?_ | refine sF ?_ ?_) <;> intro h
    | simp only [go_sem, *])
theorem any_not {α : Type} (p : α → Bool) (l : List α) : l.any (fun x => !p x) = !l.all p := by
  induction l with | nil => rfl | cons a l ih => simp [ih]
theorem isRow_d (vars : Int) (r : Row) : DCall Tryz.prog 135 [i64 vars, r.tr] (.bool (rightB vars r)) := by
  refine dcall_mk orders Tryz.func135 rfl (by kernel_rfl) noMu (by kernel_rfl) rfl (fun hs => ?_)
  have hc := containsInts_d r.nn r.coefs 207 [] (fun x => !smallB x) (fun x _ => far_d x)
  repeat' (first
    | (with_reducible first | refine sA ?_ ?_ | refine sB ?_ ?_ | refine sC ?_ ?_ | refine sD ?_ ?_ | refine sE ?_ ?_ | refine sF ?_ ?_) <;> intro h
    | refine clK_mk (far_d _) rfl ?_
    | refine clK_mk (hc) rfl ?_
    | simp only [go_sem, *])
  all_goals simp_all [rightB, any_not]
def stateErr (f : Flow) (s : State) : Int :=
  if flowErr f != 0 then flowErr f
  else if decide (s.loc < 0) || decide (s.loc ≥ f.locs) then 8
  else if (s.vals.length : Int) != f.vars then 2
  else if s.vals.all wordB then 0 else 2
end YtihgdplbehempaaGreat
end Go.Vm
end
section
set_option linter.unusedSimpArgs false
namespace Go.Vm
open Go
section
variable {P : Program} {w : World}
inductive Typed (P : Program) : TypeId → List Tr → Prop where
  | bool {t : TypeId} {b : Bool} (h : P.underlying t = some .bool) : Typed P t [.bool b]
  | int {t : TypeId} {k : IntKind} {n : Int} (h : P.underlying t = some (.int k)) (hw : (Lit.int k n).wf = true) : Typed P t [.int k n]
  | str {t : TypeId} {s : ByteArray} (h : P.underlying t = some .string) (hs : s.size ≤ maxLen) : Typed P t [.str s]
  | snil {t e : TypeId} (h : P.underlying t = some (.slice e)) : Typed P t [.sl false []]
  | sl {t e : TypeId} {l : List Tr} (h : P.underlying t = some (.slice e)) (hel : ∀ x ∈ l, Typed P e x.cells) (hag : ∀ x ∈ l, aggB P e = some true → x = .agg x.cells) (hln : ∀ x ∈ l, x.cells.length = P.cellsOf e) (hna : ∀ x ∈ l, aggB P e = some false → x.cells = [x]) : Typed P t [.sl true l]
  | struct {t : TypeId} {fs : Array Field} {cs : List Tr} (h : P.underlying t = some (.struct fs)) (hl : cs.length = P.cellsOf t) (hf : ∀ f ∈ fs.toList, Typed P f.type ((cs.drop f.offset).take (P.cellsOf f.type))) : Typed P t cs
def laid (P : Program) : Nat → List Field → Option Nat
  | o, [] => some o
  | o, f :: r => if f.offset = o then laid P (o + P.cellsOf f.type) r else none
def plainT (P : Program) : Nat → TypeId → Bool
  | 0, _ => false
  | n + 1, t => match P.underlying t with
    | some .bool | some (.int _) | some .string => P.cellsOf t == 1 && aggB P t == some false
    | some (.slice e) => P.cellsOf t == 1 && aggB P t == some false && Nat.blt 0 (P.cellsOf e) && plainT P n e
    | some (.struct fs) => aggB P t == some true && laid P 0 fs.toList == some (P.cellsOf t) && fs.toList.all fun f => plainT P n f.type
    | _ => false
def CellsR (w : World) (xs : List Tr) (cs : List Value) : Prop := xs.length = cs.length ∧ ∀ (k : Nat) x, xs[k]? = some x → Reads w (fun _ => False) x (cs.getD k undef) ∧ x.cells = [x] ∧ (cs.getD k undef).oneCell' = true
theorem CellsR.one {x : Tr} {v : Value} (hr : Reads w (fun _ => False) x v) (hx : x.cells = [x]) (hv : v.oneCell' = true) : CellsR w [x] [v] := by
  refine ⟨rfl, fun k y hk => ?_⟩
  cases k with
  | zero => simp at hk; subst hk; exact ⟨hr, hx, hv⟩
  | succ k => simp at hk
theorem flat_at {l : List Tr} {esz : Nat} (hpos : 0 < esz) (he : ∀ x ∈ l, x.cells.length = esz) {k : Nat} {x : Tr} (hk : (flat l)[k]? = some x) : ∃ y, l[k / esz]? = some y ∧ y.cells[k % esz]? = some x := by
  have hlt := (List.getElem?_eq_some_iff.1 hk).1
  rw [flat_length l esz he] at hlt
  have hi : k / esz < l.length := (Nat.div_lt_iff_lt_mul hpos).2 hlt
  refine ⟨l[k / esz], List.getElem?_eq_getElem hi, ?_⟩
  have hy := he _ (List.getElem_mem hi)
  have hj : k % esz < (l[k / esz]).cells.length := by rw [hy]; exact Nat.mod_lt _ hpos
  have := flat_get l esz he (k / esz) _ (List.getElem?_eq_getElem hi) (k % esz) _ (List.getElem?_eq_getElem hj)
  rw [Nat.mul_comm, Nat.div_add_mod] at this
  rw [List.getElem?_eq_getElem hj]
  rw [this] at hk; exact hk
theorem CellsR.part {xs : List Tr} {cs : List Value} (h : CellsR w xs cs) (o n : Nat) : CellsR w ((xs.drop o).take n) ((cs.drop o).take n) := by
  refine ⟨by simp [h.1], fun k x hk => ?_⟩
  rw [List.getElem?_take] at hk
  split at hk
  · rename_i hkn
    rw [List.getElem?_drop] at hk
    have := h.2 _ x hk
    have e : ((cs.drop o).take n).getD k undef = cs.getD (o + k) undef := by simp [List.getD, List.getElem?_take, hkn]
    rw [e]; exact this
  · cases hk
variable {H : Type} {enc : TypeId × Value → H} {base : Nat} {spare : Nat → Bool} {held : Bool}
theorem fields_typed {R : TypeId → List Value → Prop} (hR : ∀ t cs, R t cs → ∃ xs, Typed P t xs ∧ CellsR w xs cs) {cs : List Value} : ∀ (fs : List Field) (o n : Nat), laid P o fs = some n → o ≤ cs.length → n = cs.length →
    (∀ f ∈ fs, R f.type ((cs.drop f.offset).take (P.cellsOf f.type))) → ∃ zs, CellsR w zs (cs.drop o) ∧ ∀ f ∈ fs, o ≤ f.offset ∧ Typed P f.type ((zs.drop (f.offset - o)).take (P.cellsOf f.type))
  | [], o, n, hl, ho, hn, _ => by
    simp only [laid, Option.some.injEq] at hl
    refine ⟨[], ?_, by simp⟩
    subst hl
    rw [hn, List.drop_length]
    exact ⟨rfl, fun k x hk => by simp at hk⟩
  | f :: r, o, n, hl, ho, hn, hf => by
    unfold laid at hl
    split at hl
    · rename_i hoff
      have hmono : ∀ (fs : List Field) (o n : Nat), laid P o fs = some n → o ≤ n := by
        intro fs
        induction fs with
        | nil => intro o n h; simp [laid] at h; omega
        | cons g r ih =>
          intro o n h
          unfold laid at h
          split at h
          · have := ih _ _ h; omega
          · cases h
      have hle := hmono _ _ _ hl
      obtain ⟨xs, h1, h2⟩ := hR _ _ (hf f (by simp))
      obtain ⟨zs, h3, h4⟩ := fields_typed hR r (o + P.cellsOf f.type) n hl (by omega) hn (fun g hg => hf g (by simp [hg]))
      have hxl : xs.length = P.cellsOf f.type := by rw [h2.1]; simp; omega
      refine ⟨xs ++ zs, ⟨?_, ?_⟩, ?_⟩
      · rw [List.length_append, hxl, h3.1]; simp; omega
      · intro k x hk
        rw [List.getElem?_append] at hk
        split at hk
        · rename_i hlt
          have := h2.2 k x hk
          have e : ((cs.drop f.offset).take (P.cellsOf f.type)).getD k undef = (cs.drop o).getD k undef := by
            simp [List.getD, List.getElem?_take, hoff, show k < P.cellsOf f.type by omega]
          rw [e] at this; exact this
        · rename_i hge
          have := h3.2 _ x hk
          have e : (cs.drop (o + P.cellsOf f.type)).getD (k - xs.length) undef = (cs.drop o).getD k undef := by
            simp only [List.getD, List.getElem?_drop]; congr 2; omega
          rw [e] at this; exact this
      · intro g hg
        rcases List.mem_cons.1 hg with rfl | hg
        · refine ⟨by omega, ?_⟩
          rw [hoff, Nat.sub_self, List.drop_zero, List.take_left' hxl]
          exact h1
        · obtain ⟨g1, g2⟩ := h4 g hg
          refine ⟨by omega, ?_⟩
          have e : (xs ++ zs).drop (g.offset - o) = zs.drop (g.offset - (o + P.cellsOf f.type)) := by
            rw [List.drop_append, List.drop_of_length_le (by omega), List.nil_append]
            congr 1; omega
          rw [e]; exact g2
    · cases hl
theorem plain_ag {m : Nat} {e : TypeId} (h : plainT P m e = true) : aggB P e = some true ∨ (aggB P e = some false ∧ P.cellsOf e = 1) := by
  cases m with
  | zero => simp [plainT] at h
  | succ m =>
    unfold plainT at h
    split at h <;> simp_all
def mkEl (ag : Option Bool) (xs : List Tr) : Tr := match ag with | some true => .agg xs | _ => xs.headD default
theorem mkEl_cells {ag : Option Bool} {xs : List Tr} {cs : List Value} (h : CellsR w xs cs) (ha : ag = some true ∨ (ag = some false ∧ xs.length = 1)) : (mkEl ag xs).cells = xs := by
  rcases ha with rfl | ⟨rfl, hl⟩
  · rfl
  · obtain ⟨x, rfl⟩ := List.length_eq_one_iff.1 hl
    exact (h.2 0 x rfl).2.1
theorem trod_typed : ∀ (fuel m : Nat) (t : TypeId) (cs : List Value) (d : DataW H) (ps : List MemPlace), DataW.trod enc P w base spare held fuel t cs = some (d, ps) → plainT P m t = true → ∃ xs, Typed P t xs ∧ CellsR w xs cs := by
  intro fuel
  induction fuel with
  | zero => intro m t cs d ps h; simp [DataW.trod] at h
  | succ fuel ih =>
    intro m t cs d ps h hp
    cases m with
    | zero => simp [plainT] at hp
    | succ m =>
      unfold plainT at hp
      unfold DataW.trod at h
      split at hp
      · rename_i hu
        rw [hu] at h
        split at h <;> simp_all
        rename_i b
        exact ⟨[.bool b], .bool hu, .one (.bool b) rfl rfl⟩
      · rename_i k hu
        rw [hu] at h
        split at h <;> simp_all
        obtain ⟨⟨rfl, hw⟩, _⟩ := h
        exact ⟨_, .int hu hw, .one (.int _ _) rfl rfl⟩
      · rename_i hu
        rw [hu] at h
        split at h <;> simp_all
        rename_i b
        exact ⟨[.str b], .str hu h.1, .one (.str b) rfl rfl⟩
      · rename_i e hu
        rw [hu] at h
        simp only [Bool.and_eq_true, beq_iff_eq] at hp
        obtain ⟨⟨⟨_, _⟩, hpos⟩, hpe⟩ := hp
        have hpos' : 0 < P.cellsOf e := by simp [Nat.blt] at hpos; omega
        split at h <;> try (simp_all; done)
        · rename_i hu2; injection hu2 with hu2; injection hu2 with hu2; subst hu2
          exact ⟨_, .snil hu, .one .nil rfl rfl⟩
        · rename_i e' a len cap hu2
          injection hu2 with hu2; injection hu2 with hu2; subst hu2
          simp only at h
          split at h <;> try (cases h; done)
          rename_i hc
          obtain ⟨hb, hlc, hcm⟩ := hc
          cases hmm : (List.range len).mapM (fun i => (w.cells? base (a.add (i * P.cellsOf e)) (P.cellsOf e)).bind (DataW.trod enc P w base spare held fuel e)) with
          | none => rw [hmm] at h; cases h
          | some ys =>
            clear h
            have hyl := mapM_some_length hmm
            have each : ∀ i, i < len → ∃ xs, ∃ ci, w.cells? base (a.add (i * P.cellsOf e)) (P.cellsOf e) = some ci ∧ Typed P e xs ∧ CellsR w xs ci := by
              intro i hi
              have h1 := mapM_some_get hmm i i (by simp [hi])
              have h2 : ys[i]? = some (ys[i]'(by rw [hyl]; simpa using hi)) := List.getElem?_eq_getElem _
              rw [h2] at h1
              cases hcc : w.cells? base (a.add (i * P.cellsOf e)) (P.cellsOf e) with
              | none => rw [hcc] at h1; cases h1
              | some ci =>
                rw [hcc] at h1
                simp only [Option.bind_some] at h1
                obtain ⟨xs, g1, g2⟩ := ih m e ci _ _ (by rw [h1]) hpe
                exact ⟨xs, ci, rfl, g1, g2⟩
            obtain ⟨X, hX⟩ : ∃ X : Nat → List Tr, ∀ i, i < len → ∃ ci, w.cells? base (a.add (i * P.cellsOf e)) (P.cellsOf e) = some ci ∧ Typed P e (X i) ∧ CellsR w (X i) ci :=
              ⟨fun i => if h : i < len then Classical.choose (each i h) else [], fun i h => by simp only [dif_pos h]; exact Classical.choose_spec (each i h)⟩
            have hXl : ∀ i, i < len → (X i).length = P.cellsOf e := fun i h => by
              obtain ⟨ci, h1, _, h3⟩ := hX i h
              rw [h3.1]; exact (World.cells?_some h1).2.1
            have hag := plain_ag hpe
            have hcell : ∀ i, i < len → (mkEl (aggB P e) (X i)).cells = X i := fun i h => by
              obtain ⟨ci, h1, _, h3⟩ := hX i h
              refine mkEl_cells h3 (hag.imp id fun h4 => ⟨h4.1, by rw [hXl i h]; exact h4.2⟩)
            generalize hldef : (List.range len).map (fun i => mkEl (aggB P e) (X i)) = l
            have hl : l.length = len := by rw [← hldef]; simp
            have hget : ∀ (i : Nat) y, l[i]? = some y → i < len ∧ y = mkEl (aggB P e) (X i) := by
              intro i y hy
              have hi := (List.getElem?_eq_some_iff.1 hy).1
              rw [hl] at hi
              rw [← hldef, List.getElem?_map, List.getElem?_range hi] at hy
              simp only [Option.map_some, Option.some.injEq] at hy
              exact ⟨hi, hy.symm⟩
            have hmem : ∀ y ∈ l, ∃ i, i < len ∧ y = mkEl (aggB P e) (X i) := by
              intro y hy
              obtain ⟨i, hi⟩ := List.mem_iff_getElem?.1 hy
              exact ⟨i, hget i y hi⟩
            have hlen : ∀ x ∈ l, x.cells.length = P.cellsOf e := by
              intro y hy
              obtain ⟨i, hi, rfl⟩ := hmem y hy
              rw [hcell i hi, hXl i hi]
            have hspot : flat l ≠ [] → a.spot = none := by
              intro hne
              have hpl : 0 < len := by
                rcases Nat.eq_zero_or_pos len with h0 | h0
                · rw [h0] at hl; have := List.eq_nil_of_length_eq_zero hl; subst this; exact absurd rfl hne
                · exact h0
              obtain ⟨ci, h1, _, _⟩ := hX 0 hpl
              obtain ⟨_, h5, h6⟩ := World.cells?_some h1
              have h7 := h6 0 hpos'
              rw [List.getElem?_eq_getElem (by omega : 0 < ci.length)] at h7
              have := World.cell?_spot h7
              simpa [Addr.add] using this
            refine ⟨[.sl true l], .sl hu (fun y hy => ?_) (fun y hy hag2 => ?_) hlen (fun y hy hag2 => ?_), .one ?_ rfl rfl⟩
            · obtain ⟨i, hi, rfl⟩ := hmem y hy
              rw [hcell i hi]
              obtain ⟨ci, _, h2, _⟩ := hX i hi
              exact h2
            · obtain ⟨i, hi, rfl⟩ := hmem y hy
              rw [hag2]; rfl
            · obtain ⟨i, hi, rfl⟩ := hmem y hy
              obtain ⟨ci, _, _, h3⟩ := hX i hi
              have hx1 : (X i).length = 1 := by
                rcases hag with h9 | h9
                · rw [hag2] at h9; cases h9
                · rw [hXl i hi]; exact h9.2
              obtain ⟨x, hx⟩ := List.length_eq_one_iff.1 hx1
              rw [hx] at h3 ⊢
              rw [hag2]
              exact (h3.2 0 x rfl).2.1
            · have key : ∀ (k : Nat) x, (flat l)[k]? = some x → ∃ v, w.cell? (a.add k) = some v ∧ Reads w (fun _ => False) x v ∧ v.oneCell' = true := by
                intro k x hk
                have hs := hspot (by intro e0; rw [e0] at hk; simp at hk)
                obtain ⟨y, hy, hyk⟩ := flat_at hpos' hlen hk
                obtain ⟨hi, rfl⟩ := hget _ y hy
                rw [hcell _ hi] at hyk
                obtain ⟨ci, h1, _, h3⟩ := hX _ hi
                obtain ⟨_, h5, h6⟩ := World.cells?_some h1
                have hj : k % P.cellsOf e < P.cellsOf e := Nat.mod_lt _ hpos'
                have h7 := h6 _ hj
                rw [add_add a hs, Nat.mul_comm, Nat.div_add_mod] at h7
                have h8 := h3.2 _ x hyk
                refine ⟨ci.getD (k % P.cellsOf e) undef, ?_, h8.1, h8.2.2⟩
                rw [h7]; simp [List.getD, List.getElem?_eq_getElem (by omega : k % P.cellsOf e < ci.length)]
              have := Reads.sl (w := w) (L := fun _ => False) (l := l) (a := a) (cap := cap) (esz := P.cellsOf e) (vals := fun k => (w.cell? (a.add k)).getD undef) hspot (by omega) hcm hlen
                (fun k x hk => by obtain ⟨v, h1, h2, h3⟩ := key k x hk; rw [h1]; exact ⟨id, rfl, h3⟩) (fun k x hk => by obtain ⟨v, h1, h2, h3⟩ := key k x hk; rw [h1]; exact h2)
              rw [hl] at this
              exact this
      · rename_i fs hu
        rw [hu] at h
        simp only [Bool.and_eq_true, beq_iff_eq, List.all_eq_true] at hp
        obtain ⟨⟨hag, hlaid⟩, hall⟩ := hp
        have h : (if cs.length = P.cellsOf t then (fs.toList.mapM fun f => DataW.trod enc P w base spare held fuel f.type ((cs.drop f.offset).take (P.cellsOf f.type))).map fun xs => (DataW.agg (xs.map (·.1)), xs.flatMap (·.2)) else none) = some (d, ps) := by
          split at h <;> simp_all
        split at h <;> try (cases h; done)
        rename_i hcl
        cases hmm : fs.toList.mapM (fun f => DataW.trod enc P w base spare held fuel f.type ((cs.drop f.offset).take (P.cellsOf f.type))) with
        | none => rw [hmm] at h; cases h
        | some ys =>
          have hf : ∀ f ∈ fs.toList, ∃ xs, Typed P f.type xs ∧ CellsR w xs ((cs.drop f.offset).take (P.cellsOf f.type)) := by
            intro f hfm
            obtain ⟨i, hi⟩ := List.mem_iff_getElem?.1 hfm
            have h1 := mapM_some_get hmm i f hi
            have hlt : i < ys.length := by rw [mapM_some_length hmm]; exact (List.getElem?_eq_some_iff.1 hi).1
            rw [List.getElem?_eq_getElem hlt] at h1
            exact ih m f.type _ _ _ (by rw [h1]) (hall f hfm)
          obtain ⟨zs, g1, g2⟩ := fields_typed (P := P) (w := w) (R := fun t c => ∃ xs, Typed P t xs ∧ CellsR w xs c) (fun _ _ h => h) (cs := cs) fs.toList 0 _ hlaid (Nat.zero_le _) hcl.symm hf
          refine ⟨zs, .struct hu (by rw [g1.1]; simpa using hcl) (fun f hfm => ?_), by simpa using g1⟩
          simpa using (g2 f hfm).2
      · cases hp
theorem arg_agg {m : Nat} {t : TypeId} {vs : Array Value} {d : DataW H} {ps : List MemPlace} (h : DataW.Trod enc P w base spare held t (.agg vs) d ps) (hp : plainT P m t = true) : ∃ xs, Typed P t xs ∧ Reads w (fun _ => False) (.agg xs) (.agg vs) := by
  obtain ⟨fuel, hf⟩ := h
  obtain ⟨xs, h1, h2⟩ := trod_typed fuel m t _ d ps hf hp
  refine ⟨xs, h1, .agg (by rw [h2.1]; simp [Value.cells]) fun i x hx => ?_⟩
  have := (h2.2 i x hx).1
  have e : ((Value.agg vs).cells.toList).getD i undef = vs.getD i undef := by simp [Value.cells, List.getD, Array.getD]; split <;> simp_all
  rw [e] at this; exact this
theorem arg_one {m : Nat} {t : TypeId} {v : Value} {d : DataW H} {ps : List MemPlace} (h : DataW.Trod enc P w base spare held t v d ps) (hp : plainT P m t = true) (hv : v.cells = #[v]) : ∃ x, Typed P t [x] ∧ Reads w (fun _ => False) x v := by
  obtain ⟨fuel, hf⟩ := h
  obtain ⟨xs, h1, h2⟩ := trod_typed fuel m t _ d ps hf hp
  rw [hv] at h2
  obtain ⟨x, rfl⟩ := List.length_eq_one_iff.1 (by rw [h2.1]; rfl)
  exact ⟨x, h1, by simpa using (h2.2 0 x rfl).1⟩
end
end Go.Vm
end
section
namespace Go.Vm
open Go
section
variable {P : Program} {mu : Nat → Bool} {F : Ex → St → Prop} {r : List Item} {s : St} {h : Hp}
@[go_sem] theorem un_t (x : Tr) : (PV.t x).un = x.pv := nrfl rfl
@[go_sem] theorem un_rf (id : Id) (n : Nat) : (PV.rf id n).un = .rf id n := nrfl rfl
@[go_sem] theorem un_ad (id : Id) (n off : Nat) : (PV.ad id n off).un = .ad id n off := nrfl rfl
@[go_sem] theorem initSlI_app (args : List PV) (t : Nat) : initSlI args t = (match args[t]? with | some x => x.un | none => .undef) := nrfl rfl
@[go_sem] theorem initStI_sl (args : List PV) (h : Hp) : (initStI args h).sl = initSlI args := nrfl rfl
@[go_sem] theorem initStI_hp (args : List PV) (h : Hp) : (initStI args h).hp = h := nrfl rfl
def endX (x : Option PV) (Q : PV → Hp → Prop) (h : Hp) : Prop := match x with | some r => Q r h | none => False
@[go_sem] theorem endX_some (x : PV) (Q : PV → Hp → Prop) (h : Hp) : endX (some x) Q h = Q x h := nrfl rfl
theorem endX_eq (x : Option PV) (Q : PV → Hp → Prop) (h : Hp) : (∃ r, x = some r ∧ Q r h) = endX x Q h := by
  cases x <;> simp [endX]
@[go_sem] theorem endI_ret (fn : Func) (Q : PV → Hp → Prop) : endI P fn Q .ret s = endX (resI P s fn.results.toList) Q s.hp := endX_eq _ _ _
@[go_sem] theorem endI_normal (fn : Func) (Q : PV → Hp → Prop) : endI P fn Q .normal s = endX (resI P s fn.results.toList) Q s.hp := endX_eq _ _ _
def tupI (l : Option (List PV)) : Option PV := match l with | some ts => some (mkTup ts) | none => none
@[go_sem] theorem tupI_some (l : List PV) : tupI (some l) = some (mkTup l) := nrfl rfl
theorem resI_eq (l : List ResultVar) : resI P s l = (match mapO (resPV P s) l with | some [x] => some x | some ts => some (mkTup ts) | none => none) := rfl
@[go_sem] theorem resI_one (a : ResultVar) : resI P s [a] = resPV P s a := by
  rw [resI_eq]; simp only [mapO]; cases resPV P s a <;> rfl
@[go_sem] theorem resI_more (a b : ResultVar) (l : List ResultVar) : resI P s (a :: b :: l) = tupI (mapO (resPV P s) (a :: b :: l)) := by
  rw [resI_eq]; simp only [mapO]; cases resPV P s a <;> cases resPV P s b <;> cases mapO (resPV P s) l <;> rfl
@[go_sem] theorem resI_nil : resI P s [] = some (.t (.tup [])) := nrfl rfl
def consI (a : Option PV) (l : Option (List PV)) : Option (List PV) := match a, l with | some b, some bs => some (b :: bs) | _, _ => none
@[go_sem] theorem consI_some (a : PV) (l : List PV) : consI (some a) (some l) = some (a :: l) := nrfl rfl
@[go_sem] theorem mapO_resI_nil : mapO (resPV P s) [] = some [] := nrfl rfl
@[go_sem] theorem mapO_resI_cons (a : ResultVar) (l : List ResultVar) : mapO (resPV P s) (a :: l) = consI (resPV P s a) (mapO (resPV P s) l) := by
  simp only [mapO, consI]; cases resPV P s a <;> cases mapO (resPV P s) l <;> rfl
@[go_sem] theorem resPV_tmp (t : Tmp) : resPV P s (.tmp t) = some (s.sl t) := nrfl rfl
theorem extract_mkTup (l : List PV) (i : Nat) : extractPV (mkTup l) i = l[i]? := by
  unfold mkTup extractPV
  cases h : trees l with
  | none => rfl
  | some ts =>
    have := trees_get h; subst this
    simp only [List.getElem?_map]
    cases ts[i]? <;> rfl
attribute [go_sem ↓] extract_mkTup
theorem icall_sized {g : FuncId} {args : List PV} {Q : PV → Hp → Prop} (he : Enters P g) (hd : (∀ x, PV.t x ∈ args → x.sized = true) → (∀ id o, hget h id = some o → o.len ≤ 9223372036854775807) → ICall P g args h Q) : ICall P g args h Q := by
  refine ⟨he, fun w A μ vs hr hl hv => ?_⟩
  refine (hd (fun x hx => ?_) (fun id o ho => ?_)).2 w A μ vs hr hl hv
  · obtain ⟨i, hi⟩ := List.mem_iff_getElem?.1 hx
    exact (hv i _ hi).tree.sized
  · by_cases hz : o.esz = 0
    · rw [hr.len0 ho hz]; decide
    obtain ⟨cur, cap, h1, h2, h3, h4, h5, h6, h7, _⟩ := hr.obj id o ho hz
    exact Nat.le_trans h6 (by simpa [maxLen] using h7)
theorem icall_mk {g : FuncId} {fn : Func} {c : Code} {args : List PV} {Q : PV → Hp → Prop} (hm : P.follows .mixedOrders = true) (hf : P.funcs[g]? = some fn) (hb : fn.body = some c) (hname : (fn.name == "runtime.NumGoroutine") = false)
    (mu : Nat → Bool) (hok : codeOK mu fn.ntmps c = true) (hn : Nat.ble args.length fn.ntmps = true)
    (hw : (∀ x, PV.t x ∈ args → x.sized = true) → (∀ id o, hget h id = some o → o.len ≤ 9223372036854775807) → kont P mu (endI P fn Q) [.code c] .normal (initStI args h)) : ICall P g args h Q :=
  icall_sized ⟨fn, hf, hname, by simp [hb]⟩ fun hs ho => icall_of_wp hm hf hb hname mu hok (Nat.le_of_ble_eq_true hn) (by rw [kont_start]; exact hw hs ho)
end
def Same (h h' : Hp) (ids : List Id) : Prop := ∀ id o, id ∉ ids → hget h id = some o → hget h' id = some o
theorem Same.refl (h : Hp) (ids : List Id) : Same h h ids := fun _ _ _ ho => ho
theorem Same.trans {h h' h'' : Hp} {ids ids' : List Id} (a : Same h h' ids) (b : Same h' h'' ids') : Same h h'' (ids ++ ids') := fun id o hn ho => b id o (fun e => hn (by simp [e])) (a id o (fun e => hn (by simp [e])) ho)
theorem Same.mono {h h' : Hp} {ids ids' : List Id} (a : Same h h' ids) (hs : ∀ i ∈ ids, i ∈ ids') : Same h h' ids' := fun id o hn ho => a id o (fun e => hn (hs _ e)) ho
theorem Same.set (h : Hp) (id : Id) (o : Obj) : Same h (hset h id o) [id] := fun i o' hn ho => by
  rw [hget_hset, if_neg (by simpa using hn)]; exact ho
theorem Same.new (h : Hp) (d : Nat) (o : Obj) : Same h (hnew h d o) [] := fun i o' _ ho => by
  rw [hget_hnew, if_neg]
  · exact ho
  · intro e; rw [e, hget_hnext] at ho; cases ho
end Go.Vm
namespace Go.Vm
open Go
theorem reach_row {h : Hp} {id : Id} {l : List Tr} {esz n m : Nat} {e : TypeId} {ag lv : Bool} (k : Nat) (hg : hget h id = some ⟨l.map .t, esz, n, e, ag, lv⟩) : reach h (k + 1) (.rf id m) = [id] := by
  simp only [reach, hg]
  rw [flat_reach]
theorem frz_other {h : Hp} {ids : List Id} {id : Id} {o : Obj} (hg : hget h id = some o) (hn : ids.contains id = false) : hget (frz h ids) id = some o := by
  rw [hget_frz, hg]
  simp only [Option.map_some, hn, Bool.not_false, Bool.and_true]
theorem frz_row {h : Hp} {id id' : Id} {l : List Tr} {esz n m : Nat} {e : TypeId} {ag lv : Bool} {o : Obj} (hg : hget h id = some ⟨l.map .t, esz, n, e, ag, lv⟩) (ho : hget h id' = some o) (hne : (id == id') = false) :
    hget (frz h (reach h dep (.rf id m) ++ [])) id' = some o := by
  refine frz_other ho ?_
  rw [show dep = 5 + 1 from rfl, reach_row 5 hg]
  have : (id' == id) = false := by
    rw [beq_eq_false_iff_ne] at hne ⊢
    exact fun e => hne e.symm
  simp [this]
  intro e; simp [e] at this
end Go.Vm
end
section
namespace Go.Whole
open Go
def B : Nat := 4294967296
theorem B_eq : B = 4294967296 := rfl
theorem B_pos : 0 < B := by decide
def val : List Nat → Nat
  | [] => 0
  | d :: r => d + B * val r
def strip : List Nat → List Nat
  | [] => []
  | d :: r => if strip r = [] then (if d = 0 then [] else [d]) else d :: strip r
def okD (l : List Nat) : Prop := ∀ d ∈ l, d < B
def digs (n : Nat) : List Nat := if n = 0 then [] else n % B :: digs (n / B)
termination_by n
decreasing_by exact Nat.div_lt_self (by omega) (by decide)
theorem digs_zero : digs 0 = [] := by unfold digs; rfl
theorem digs_pos {n : Nat} (h : n ≠ 0) : digs n = n % B :: digs (n / B) := by
  conv => lhs; unfold digs
  rw [if_neg h]
theorem okD_cons {d : Nat} {l : List Nat} : okD (d :: l) ↔ d < B ∧ okD l := by simp [okD]
theorem okD_nil : okD [] := by simp [okD]
theorem okD_append {a b : List Nat} : okD (a ++ b) ↔ okD a ∧ okD b := by
  simp only [okD, List.mem_append]
  exact ⟨fun h => ⟨fun d hd => h d (.inl hd), fun d hd => h d (.inr hd)⟩, fun h d hd => hd.elim (h.1 d) (h.2 d)⟩
theorem okD_take {l : List Nat} (h : okD l) (n : Nat) : okD (l.take n) := fun d hd => h d (List.mem_of_mem_take hd)
theorem okD_drop {l : List Nat} (h : okD l) (n : Nat) : okD (l.drop n) := fun d hd => h d (List.mem_of_mem_drop hd)
theorem okD_tail {l : List Nat} (h : okD l) : okD l.tail := by cases l with | nil => exact h | cons => exact (okD_cons.1 h).2
theorem okD_head {l : List Nat} (h : okD l) : l.headD 0 < B := by cases l with | nil => exact B_pos | cons => exact (okD_cons.1 h).1
theorem digs_ok : ∀ n, okD (digs n) := by
  intro n
  induction n using Nat.strongRecOn with
  | ind n ih =>
    by_cases h : n = 0
    · subst h; rw [digs_zero]; exact okD_nil
    · rw [digs_pos h, okD_cons]
      exact ⟨Nat.mod_lt _ B_pos, ih _ (Nat.div_lt_self (by omega) (by decide))⟩
theorem val_digs : ∀ n, val (digs n) = n := by
  intro n
  induction n using Nat.strongRecOn with
  | ind n ih =>
    by_cases h : n = 0
    · subst h; rw [digs_zero]; rfl
    · rw [digs_pos h]
      simp only [val, ih _ (Nat.div_lt_self (by omega : 0 < n) (by decide : 1 < B))]
      exact Nat.mod_add_div n B
theorem digs_nil {n : Nat} : digs n = [] ↔ n = 0 := by
  constructor
  · intro h; have := val_digs n; rw [h] at this; exact this.symm
  · intro h; subst h; exact digs_zero
theorem strip_digs : ∀ {l : List Nat}, okD l → strip l = digs (val l)
  | [], _ => by simp [strip, val, digs_zero]
  | d :: r, h => by
    have hd := (okD_cons.1 h).1
    have ih := strip_digs (okD_cons.1 h).2
    simp only [strip, ih, digs_nil, val]
    by_cases hr : val r = 0
    · rw [if_pos hr, hr, Nat.mul_zero, Nat.add_zero]
      by_cases h0 : d = 0
      · rw [if_pos h0, h0, digs_zero]
      · rw [if_neg h0, digs_pos h0, Nat.mod_eq_of_lt hd, Nat.div_eq_of_lt hd, digs_zero]
    · rw [if_neg hr]
      have hpos : d + B * val r ≠ 0 := by
        have := Nat.mul_pos B_pos (Nat.pos_of_ne_zero hr); omega
      rw [digs_pos hpos, Nat.add_mul_mod_self_left, Nat.mod_eq_of_lt hd, Nat.add_mul_div_left _ _ B_pos, Nat.div_eq_of_lt hd, Nat.zero_add]
theorem val_append : ∀ (a b : List Nat), val (a ++ b) = val a + B ^ a.length * val b
  | [], b => by simp [val]
  | d :: a, b => by
    simp only [List.cons_append, val, val_append a b, List.length_cons, Nat.pow_succ, Nat.mul_add]
    rw [Nat.mul_comm (B ^ a.length) B, Nat.mul_assoc]; omega
theorem val_lt : ∀ {l : List Nat}, okD l → val l < B ^ l.length
  | [], _ => by simp [val]
  | d :: r, h => by
    have h1 := (okD_cons.1 h).1
    have h2 := val_lt (okD_cons.1 h).2
    simp only [val, List.length_cons, Nat.pow_succ]
    have : B * val r + B ≤ B ^ r.length * B := by
      rw [Nat.mul_comm (B ^ r.length), ← Nat.mul_succ]
      exact Nat.mul_le_mul_left _ h2
    omega
theorem val_zeros : ∀ n, val (List.replicate n 0) = 0
  | 0 => rfl
  | n + 1 => by simp [List.replicate_succ, val, val_zeros n]
theorem okD_zeros (n : Nat) : okD (List.replicate n 0) := fun d hd => by rw [(List.mem_replicate.1 hd).2]; exact B_pos
theorem digs_length_le {n k : Nat} (h : n < B ^ k) : (digs n).length ≤ k := by
  induction k generalizing n with
  | zero => have : n = 0 := by simpa using h
            subst this; simp [digs_zero]
  | succ k ih =>
    by_cases h0 : n = 0
    · subst h0; simp [digs_zero]
    · rw [digs_pos h0, List.length_cons]
      have : n / B < B ^ k := by
        rw [Nat.div_lt_iff_lt_mul B_pos]; rw [Nat.pow_succ] at h; exact h
      have := ih this; omega
theorem lt_of_digs_length {n k : Nat} (h : (digs n).length ≤ k) : n < B ^ k := by
  have := val_lt (digs_ok n)
  rw [val_digs] at this
  exact Nat.lt_of_lt_of_le this (Nat.pow_le_pow_right B_pos h)
theorem digs_length {n k : Nat} : (digs n).length ≤ k ↔ n < B ^ k := ⟨lt_of_digs_length, digs_length_le⟩
theorem digs_length_mono {a b : Nat} (h : a ≤ b) : (digs a).length ≤ (digs b).length :=
  digs_length_le (Nat.lt_of_le_of_lt h (lt_of_digs_length (Nat.le_refl _)))
theorem val_lt_of_drop {a b : List Nat} (ha : okD a) (hb : okD b) (hl : a.length = b.length) {i : Nat} (hi : i < a.length) (hd : a.drop (i + 1) = b.drop (i + 1)) (hx : a[i]! < b[i]!) : val a < val b := by
  have hib : i < b.length := by omega
  have ea : a = a.take i ++ a[i] :: a.drop (i + 1) := by rw [← List.drop_eq_getElem_cons hi, List.take_append_drop]
  have eb : b = b.take i ++ b[i] :: b.drop (i + 1) := by rw [← List.drop_eq_getElem_cons hib, List.take_append_drop]
  rw [ea, eb, val_append, val_append, hd]
  have h1 := val_lt (okD_take ha i)
  have la : (a.take i).length = i := by rw [List.length_take]; omega
  have lb : (b.take i).length = i := by rw [List.length_take]; omega
  rw [la] at h1 ⊢; rw [lb]
  simp only [val, Nat.mul_add]
  simp only [hi, hib, getElem!_pos] at hx
  have : B ^ i * a[i] + B ^ i ≤ B ^ i * b[i] := by rw [← Nat.mul_succ]; exact Nat.mul_le_mul_left _ hx
  omega
def cmpD (a b : List Nat) : Int := if a.length ≠ b.length then (a.length : Int) - b.length else if val a < val b then -1 else if val b < val a then 1 else 0
theorem cmpD_digs (x y : Nat) : (0 ≤ cmpD (digs x) (digs y)) ↔ y ≤ x := by
  unfold cmpD
  rw [val_digs, val_digs]
  by_cases hl : (digs x).length = (digs y).length
  · rw [if_neg (by simp [hl])]
    split
    · constructor
      · intro h; omega
      · intro h; omega
    · split <;> constructor <;> intros <;> omega
  · rw [if_pos (by simpa using hl)]
    constructor
    · intro h
      refine Decidable.byContradiction fun hn => ?_
      have := digs_length_mono (a := x) (b := y) (by omega)
      omega
    · intro h
      have := digs_length_mono h
      omega
def addL : List Nat → List Nat → Nat → List Nat
  | [], _, c => [c]
  | x :: a, b, c => (x + b.headD 0 + c) % B :: addL a b.tail ((x + b.headD 0 + c) / B)
theorem val_head_tail (b : List Nat) : val b = b.headD 0 + B * val b.tail := by cases b <;> simp [val]
theorem addL_spec : ∀ {a b : List Nat} {c : Nat}, okD a → okD b → c ≤ 1 → b.length ≤ a.length → val (addL a b c) = val a + val b + c ∧ okD (addL a b c) ∧ (addL a b c).length = a.length + 1
  | [], b, c, _, _, hc, hl => by
    have : b = [] := List.eq_nil_of_length_eq_zero (by simpa using hl)
    subst this
    simp only [addL, val]
    exact ⟨by omega, by rw [okD_cons]; exact ⟨by rw [B_eq]; omega, okD_nil⟩, rfl⟩
  | x :: a, b, c, ha, hb, hc, hl => by
    have h1 := (okD_cons.1 ha).1
    have h2 := okD_head hb
    have hc' : (x + b.headD 0 + c) / B ≤ 1 := by
      have : x + b.headD 0 + c < 2 * B := by omega
      have := (Nat.div_lt_iff_lt_mul B_pos).2 this
      omega
    obtain ⟨e1, e2, e3⟩ := addL_spec (a := a) (b := b.tail) (okD_cons.1 ha).2 (okD_tail hb) hc' (by simp only [List.length_tail, List.length_cons] at hl ⊢; omega)
    simp only [addL, val, e1, okD_cons, List.length_cons, e3]
    refine ⟨?_, ⟨Nat.mod_lt _ B_pos, e2⟩, trivial⟩
    rw [val_head_tail b]
    have := Nat.mod_add_div (x + b.headD 0 + c) B
    simp only [Nat.mul_add]
    omega
def sb (x y c : Nat) : Nat := (x + B - y + B - c) % B
def bw (x y c : Nat) : Nat := if x < y + c then 1 else 0
def subL : List Nat → List Nat → Nat → List Nat
  | [], _, _ => []
  | x :: a, b, c => sb x (b.headD 0) c :: subL a b.tail (bw x (b.headD 0) c)
theorem subL_spec : ∀ {a b : List Nat} {c : Nat}, okD a → okD b → c ≤ 1 → b.length ≤ a.length → okD (subL a b c) ∧ (subL a b c).length = a.length ∧ ∃ c', val (subL a b c) + val b + c = val a + c' * B ^ a.length
  | [], b, c, _, _, hc, hl => by
    have : b = [] := List.eq_nil_of_length_eq_zero (by simpa using hl)
    subst this
    exact ⟨okD_nil, rfl, c, by simp [subL, val]⟩
  | x :: a, b, c, ha, hb, hc, hl => by
    have h1 := (okD_cons.1 ha).1
    have h2 := okD_head hb
    obtain ⟨e1, e2, c', e3⟩ := subL_spec (a := a) (b := b.tail) (c := bw x (b.headD 0) c) (okD_cons.1 ha).2 (okD_tail hb) (by unfold bw; split <;> omega) (by simp only [List.length_tail, List.length_cons] at hl ⊢; omega)
    simp only [bw] at e1 e2 e3
    simp only [subL, sb, bw, val, okD_cons, List.length_cons, e2]
    refine ⟨⟨Nat.mod_lt _ B_pos, e1⟩, trivial, c', ?_⟩
    rw [val_head_tail b]
    have key : (x + B - b.headD 0 + B - c) % B + b.headD 0 + c = x + B * (if x < b.headD 0 + c then 1 else 0) := by
      split
      · rename_i hlt
        have e : x + B - b.headD 0 + B - c = (x + B - b.headD 0 - c) + B := by omega
        rw [e, Nat.add_mod_right, Nat.mod_eq_of_lt (by omega)]; omega
      · rename_i hlt
        have e : x + B - b.headD 0 + B - c = (x - b.headD 0 - c) + B + B := by omega
        rw [e, Nat.add_mod_right, Nat.add_mod_right, Nat.mod_eq_of_lt (by omega)]; omega
    have e4 : B * (val (subL a b.tail (if x < b.headD 0 + c then 1 else 0)) + val b.tail + (if x < b.headD 0 + c then 1 else 0)) = B * (val a + c' * B ^ a.length) := by rw [e3]
    have e5 : c' * B ^ (a.length + 1) = B * (c' * B ^ a.length) := by rw [Nat.pow_succ, ← Nat.mul_assoc, Nat.mul_comm]
    rw [e5]
    simp only [Nat.mul_add] at e4
    generalize B * (if x < b.headD 0 + c then 1 else 0) = q at *
    omega
theorem subL_val {a b : List Nat} (ha : okD a) (hb : okD b) (hl : b.length ≤ a.length) (hv : val b ≤ val a) : val (subL a b 0) = val a - val b ∧ okD (subL a b 0) ∧ (subL a b 0).length = a.length := by
  obtain ⟨h1, h2, c', h3⟩ := subL_spec ha hb (Nat.zero_le _) hl
  refine ⟨?_, h1, h2⟩
  have h4 := val_lt h1
  rw [h2] at h4
  have h5 := val_lt ha
  have : c' = 0 := by
    rcases Nat.eq_zero_or_pos c' with h | h
    · exact h
    · have : 1 * B ^ a.length ≤ c' * B ^ a.length := Nat.mul_le_mul_right _ h
      omega
  subst this
  omega
def macL (a : Nat) : List Nat → List Nat → Nat → List Nat
  | [], o, c => c % B :: o.tail
  | b :: y, o, c => (c + a * b + o.headD 0) % B :: macL a y o.tail ((c + a * b + o.headD 0) / B)
theorem macL_spec {a : Nat} (ha : a < B) : ∀ {y o : List Nat} {c : Nat}, okD y → okD o → c < B → y.length < o.length → (∀ d ∈ o.drop y.length, d = 0) →
    val (macL a y o c) = a * val y + val o + c ∧ okD (macL a y o c) ∧ (macL a y o c).length = o.length ∧ ∀ d ∈ (macL a y o c).drop (y.length + 1), d = 0
  | [], o, c, _, ho, hc, hl, hz => by
    cases o with
    | nil => simp at hl
    | cons x o =>
      have hx : x = 0 := hz x (by simp)
      subst hx
      simp only [macL, val, List.tail_cons, Nat.mod_eq_of_lt hc, okD_cons, List.length_cons, List.length_nil]
      refine ⟨by omega, ⟨hc, (okD_cons.1 ho).2⟩, trivial, fun d hd => hz d ?_⟩
      simp only [List.length_nil, List.drop_zero]
      simp at hd; exact List.mem_cons_of_mem _ hd
  | b :: y, o, c, hy, ho, hc, hl, hz => by
    cases o with
    | nil => simp at hl
    | cons x o =>
      have hb := (okD_cons.1 hy).1
      have hx := (okD_cons.1 ho).1
      have hab : a * b ≤ (B - 1) * (B - 1) := Nat.mul_le_mul (by omega) (by omega)
      have hc' : (c + a * b + x) / B < B := by
        rw [Nat.div_lt_iff_lt_mul B_pos]
        have : (B - 1) * (B - 1) = 18446744065119617025 := by decide
        have : B * B = 18446744073709551616 := by decide
        rw [B_eq] at hc hx
        omega
      obtain ⟨e1, e2, e3, e4⟩ := macL_spec ha (y := y) (o := o) (c := (c + a * b + x) / B) (okD_cons.1 hy).2 (okD_cons.1 ho).2 hc' (by simpa using hl) (fun d hd => hz d (by simpa using hd))
      simp only [macL, List.headD_cons, List.tail_cons, val, e1, okD_cons, List.length_cons, e3]
      refine ⟨?_, ⟨Nat.mod_lt _ B_pos, e2⟩, trivial, fun d hd => e4 d (by simpa using hd)⟩
      have := Nat.mod_add_div (c + a * b + x) B
      have e5 : a * (b + B * val y) = a * b + B * (a * val y) := by rw [Nat.mul_add, Nat.mul_left_comm]
      rw [e5]
      simp only [Nat.mul_add]
      omega
def mulL : List Nat → List Nat → List Nat → List Nat
  | [], _, o => o
  | a :: x, y, o => (macL a y o 0).headD 0 :: mulL x y (macL a y o 0).tail
theorem mulL_spec : ∀ {x y o : List Nat}, okD x → okD y → okD o → o.length = x.length + y.length → (∀ d ∈ o.drop y.length, d = 0) → val (mulL x y o) = val x * val y + val o ∧ okD (mulL x y o)
  | [], y, o, _, _, ho, _, _ => by simp [mulL, val, ho]
  | a :: x, y, o, hx, hy, ho, hl, hz => by
    simp only [List.length_cons] at hl
    obtain ⟨e1, e2, e3, e4⟩ := macL_spec (okD_cons.1 hx).1 hy ho B_pos (by omega) hz
    obtain ⟨f1, f2⟩ := mulL_spec (x := x) (y := y) (o := (macL a y o 0).tail) (okD_cons.1 hx).2 hy (okD_tail e2) (by rw [List.length_tail, e3]; omega) (fun d hd => e4 d (by rw [← List.drop_one, List.drop_drop, Nat.add_comm] at hd; exact hd))
    simp only [mulL, val, f1, okD_cons]
    refine ⟨?_, okD_head e2, f2⟩
    have := val_head_tail (macL a y o 0)
    rw [e1] at this
    have e5 : (a + B * val x) * val y = a * val y + B * (val x * val y) := by rw [Nat.add_mul, Nat.mul_assoc]
    rw [e5]
    simp only [Nat.mul_add]
    omega
end Go.Whole
namespace Go.Whole
theorem top32 (b : BitVec 32) : b.toNat / 2147483648 = if b.msb then 1 else 0 := by
  have h := b.isLt
  have := BitVec.msb_eq_decide b
  rw [this]
  by_cases hc : 2147483648 ≤ b.toNat
  · rw [if_pos (by simpa using hc)]; omega
  · rw [if_neg (by simpa using hc)]; omega
theorem borrow32 (X Y D : BitVec 32) (c : Nat) (hc : c ≤ 1) (hD : D.toNat = (X.toNat + 4294967296 - Y.toNat + 4294967296 - c) % 4294967296) :
    ((~~~X &&& Y) ||| (~~~(X ^^^ Y) &&& D)).toNat / 2147483648 = if X.toNat < Y.toNat + c then 1 else 0 := by
  rw [top32]
  have hX := X.isLt
  have hY := Y.isLt
  simp only [BitVec.msb_or, BitVec.msb_and, BitVec.msb_not, BitVec.msb_xor, BitVec.msb_eq_decide X, BitVec.msb_eq_decide Y, BitVec.msb_eq_decide D, hD]
  by_cases h1 : 2147483648 ≤ X.toNat <;> by_cases h2 : 2147483648 ≤ Y.toNat <;> by_cases h3 : 2147483648 ≤ (X.toNat + 4294967296 - Y.toNat + 4294967296 - c) % 4294967296 <;>
    by_cases h4 : X.toNat < Y.toNat + c <;> simp [h1, h2, h3, h4] <;> omega
end Go.Whole
end
section
namespace Go.Whole
open Go
theorem B_two : B = 2 ^ 32 := by decide
theorem getD_val : ∀ {l : List Nat} (_ : okD l) (k : Nat), l.getD k 0 = val l / B ^ k % B
  | [], _, k => by simp [val]
  | d :: r, h, 0 => by
    simp only [val, List.getD_cons_zero, Nat.pow_zero, Nat.div_one]
    rw [Nat.add_mul_mod_self_left, Nat.mod_eq_of_lt (okD_cons.1 h).1]
  | d :: r, h, k + 1 => by
    have ih := getD_val (okD_cons.1 h).2 k
    simp only [val, List.getD_cons_succ, ih]
    rw [Nat.pow_succ, Nat.mul_comm (B ^ k) B, ← Nat.div_div_eq_div_mul, Nat.add_mul_div_left _ _ B_pos, Nat.div_eq_of_lt (okD_cons.1 h).1, Nat.zero_add]
theorem mod_div_bit (a r : Nat) (hr : r < 32) : a % B / 2 ^ r % 2 = a / 2 ^ r % 2 := by
  have e : B = 2 ^ r * 2 ^ (32 - r) := by rw [← Nat.pow_add, B_two]; congr 1; omega
  rw [e, Nat.mod_mul_right_div_self, Nat.mod_mod_of_dvd]
  have : 2 ^ (32 - r) = 2 * 2 ^ (31 - r) := by rw [← Nat.pow_succ']; congr 1; omega
  rw [this]; exact Nat.dvd_mul_right _ _
theorem pow_split (i : Nat) : (2 : Nat) ^ i = B ^ (i / 32) * 2 ^ (i % 32) := by
  rw [B_two, ← Nat.pow_mul, ← Nat.pow_add]; congr 1; omega
theorem bit_val {l : List Nat} (h : okD l) (i : Nat) : l.getD (i / 32) 0 / 2 ^ (i % 32) % 2 = val l / 2 ^ i % 2 := by
  rw [getD_val h, mod_div_bit _ _ (Nat.mod_lt _ (by decide)), Nat.div_div_eq_div_mul, ← pow_split]
theorem half_step (x i : Nat) : x / 2 ^ i = 2 * (x / 2 ^ (i + 1)) + x / 2 ^ i % 2 := by
  have : x / 2 ^ (i + 1) = x / 2 ^ i / 2 := by rw [Nat.pow_succ, Nat.div_div_eq_div_mul]
  rw [this]; omega
theorem div_step (x y i : Nat) (hy : 0 < y) : let r := 2 * (x / 2 ^ (i + 1) % y) + x / 2 ^ i % 2
    x / 2 ^ i % y = (if y ≤ r then r - y else r) ∧ x / 2 ^ i / y = 2 * (x / 2 ^ (i + 1) / y) + (if y ≤ r then 1 else 0) := by
  intro r
  have h1 := half_step x i
  have h2 := Nat.div_add_mod (x / 2 ^ (i + 1)) y
  have h3 := Nat.mod_lt (x / 2 ^ (i + 1)) hy
  have hb : x / 2 ^ i % 2 < 2 := Nat.mod_lt _ (by decide)
  have e : x / 2 ^ i = y * (2 * (x / 2 ^ (i + 1) / y)) + r := by
    rw [h1]
    have : y * (2 * (x / 2 ^ (i + 1) / y)) = 2 * (y * (x / 2 ^ (i + 1) / y)) := by rw [Nat.mul_left_comm]
    rw [this]
    show _ = _ + (2 * (x / 2 ^ (i + 1) % y) + x / 2 ^ i % 2)
    omega
  have hr : r < 2 * y := by show 2 * (x / 2 ^ (i + 1) % y) + x / 2 ^ i % 2 < 2 * y; omega
  by_cases hc : y ≤ r
  · rw [if_pos hc, if_pos hc]
    have e2 : x / 2 ^ i = (r - y) + y * (2 * (x / 2 ^ (i + 1) / y) + 1) := by rw [e, Nat.mul_succ]; omega
    rw [e2, Nat.add_mul_mod_self_left, Nat.add_mul_div_left _ _ hy, Nat.mod_eq_of_lt (by omega), Nat.div_eq_of_lt (by omega)]
    exact ⟨rfl, by omega⟩
  · rw [if_neg hc, if_neg hc]
    have e2 : x / 2 ^ i = r + y * (2 * (x / 2 ^ (i + 1) / y)) := by rw [e]; omega
    rw [e2, Nat.add_mul_mod_self_left, Nat.add_mul_div_left _ _ hy, Nat.mod_eq_of_lt (by omega), Nat.div_eq_of_lt (by omega)]
    exact ⟨rfl, by omega⟩
theorem val_set : ∀ (l : List Nat) (k e : Nat), k < l.length → val (l.set k (l.getD k 0 + e)) = val l + e * B ^ k
  | [], k, e, h => by simp at h
  | d :: r, 0, e, _ => by simp [val]; omega
  | d :: r, k + 1, e, h => by
    have := val_set r k e (by simpa using h)
    simp only [List.set_cons_succ, List.getD_cons_succ, val, this, Nat.mul_add, Nat.pow_succ]
    rw [Nat.mul_left_comm, Nat.mul_comm (B ^ k) B]; omega
theorem or_bit {q r : Nat} (h : q % 2 ^ (r + 1) = 0) : q ||| 2 ^ r = q + 2 ^ r := by
  obtain ⟨m, rfl⟩ := Nat.dvd_of_mod_eq_zero h
  rw [Nat.two_pow_add_eq_or_of_lt]
  exact Nat.pow_lt_pow_right (by decide) (by omega)
theorem digit_low {l : List Nat} (h : okD l) {i : Nat} (hv : val l % 2 ^ (i + 1) = 0) : l.getD (i / 32) 0 % 2 ^ (i % 32 + 1) = 0 := by
  rw [getD_val h]
  have hr : i % 32 + 1 ≤ 32 := by have := Nat.mod_lt i (by decide : 0 < 32); omega
  have hd : (2 : Nat) ^ (i % 32 + 1) ∣ B := by rw [B_two]; exact Nat.pow_dvd_pow 2 hr
  rw [Nat.mod_mod_of_dvd _ hd]
  obtain ⟨m, hm⟩ := Nat.dvd_of_mod_eq_zero hv
  have e : (2 : Nat) ^ (i + 1) = B ^ (i / 32) * 2 ^ (i % 32 + 1) := by rw [B_two, ← Nat.pow_mul, ← Nat.pow_add]; congr 1; omega
  rw [hm, e, Nat.mul_assoc, Nat.mul_div_cancel_left _ (Nat.pow_pos B_pos)]
  exact Nat.mul_mod_right _ _
theorem digit_room {l : List Nat} (h : okD l) {i : Nat} (hv : val l % 2 ^ (i + 1) = 0) : l.getD (i / 32) 0 + 2 ^ (i % 32) < B := by
  have h1 := digit_low h hv
  have h2 : l.getD (i / 32) 0 < B := by rw [getD_val h]; exact Nat.mod_lt _ B_pos
  have hr : i % 32 + 1 ≤ 32 := by have := Nat.mod_lt i (by decide : 0 < 32); omega
  obtain ⟨m, hm⟩ := Nat.dvd_of_mod_eq_zero h1
  have e : B = 2 ^ (i % 32 + 1) * 2 ^ (32 - (i % 32 + 1)) := by rw [B_two, ← Nat.pow_add]; congr 1; omega
  rw [hm] at h2 ⊢
  rw [e] at h2 ⊢
  have h3 := Nat.lt_of_mul_lt_mul_left h2
  have h4 : 2 ^ (i % 32 + 1) * m + 2 ^ (i % 32 + 1) ≤ 2 ^ (i % 32 + 1) * 2 ^ (32 - (i % 32 + 1)) := by rw [← Nat.mul_succ]; exact Nat.mul_le_mul_left _ h3
  have h5 : (2 : Nat) ^ (i % 32) < 2 ^ (i % 32 + 1) := Nat.pow_lt_pow_right (by decide) (by omega)
  omega
theorem quot_set {l : List Nat} (h : okD l) {i : Nat} (hv : val l % 2 ^ (i + 1) = 0) (hi : i / 32 < l.length) :
    okD (l.set (i / 32) (l.getD (i / 32) 0 ||| 2 ^ (i % 32))) ∧ val (l.set (i / 32) (l.getD (i / 32) 0 ||| 2 ^ (i % 32))) = val l + 2 ^ i := by
  rw [or_bit (digit_low h hv), val_set _ _ _ hi, Nat.mul_comm, ← pow_split]
  refine ⟨fun d hd => ?_, rfl⟩
  rcases List.mem_or_eq_of_mem_set hd with h1 | h1
  · exact h d h1
  · rw [h1]; exact digit_room h hv
def shiftL : List Nat → Nat → List Nat
  | [], c => [c]
  | x :: d, c => (x * 2 % B + c) :: shiftL d (x / 2 ^ 31)
theorem shiftL_spec : ∀ {d : List Nat} {c : Nat}, okD d → c ≤ 1 → val (shiftL d c) = 2 * val d + c ∧ okD (shiftL d c) ∧ (shiftL d c).length = d.length + 1
  | [], c, _, hc => by
    simp only [shiftL, val]
    exact ⟨by omega, by rw [okD_cons]; exact ⟨by rw [B_eq]; omega, okD_nil⟩, rfl⟩
  | x :: d, c, h, hc => by
    have hx := (okD_cons.1 h).1
    rw [B_eq] at hx
    obtain ⟨e1, e2, e3⟩ := shiftL_spec (d := d) (c := x / 2 ^ 31) (okD_cons.1 h).2 (by omega)
    simp only [shiftL, val, e1, okD_cons, List.length_cons, e3]
    rw [B_eq]
    exact ⟨by omega, ⟨by omega, e2⟩, trivial⟩
end Go.Whole
end
section
namespace Go.Simplex
def sumN : Nat → (Nat → Rat) → Rat
  | 0, _ => 0
  | n + 1, f => sumN n f + f n
theorem sumN_congr {n : Nat} {f g : Nat → Rat} (h : ∀ i, i < n → f i = g i) : sumN n f = sumN n g := by
  induction n with
  | zero => rfl
  | succ n ih => simp only [sumN]; rw [ih (fun i hi => h i (by omega)), h n (by omega)]
theorem sumN_zero (n : Nat) : sumN n (fun _ => 0) = 0 := by
  induction n with
  | zero => rfl
  | succ n ih => simp only [sumN]; rw [ih]; grind
theorem sumN_add (n : Nat) (f g : Nat → Rat) : sumN n (fun i => f i + g i) = sumN n f + sumN n g := by
  induction n with
  | zero => simp only [sumN]; grind
  | succ n ih => simp only [sumN]; rw [ih]; grind
theorem sumN_sub (n : Nat) (f g : Nat → Rat) : sumN n (fun i => f i - g i) = sumN n f - sumN n g := by
  induction n with
  | zero => simp only [sumN]; grind
  | succ n ih => simp only [sumN]; rw [ih]; grind
theorem sumN_mul (n : Nat) (f : Nat → Rat) (t : Rat) : sumN n (fun i => f i * t) = sumN n f * t := by
  induction n with
  | zero => simp only [sumN]; grind
  | succ n ih => simp only [sumN]; rw [ih]; grind
theorem sumN_swap (n m : Nat) (f : Nat → Nat → Rat) : sumN n (fun i => sumN m (fun j => f i j)) = sumN m (fun j => sumN n (fun i => f i j)) := by
  induction n with
  | zero => simp only [sumN]; rw [sumN_zero]
  | succ n ih => simp only [sumN]; rw [ih, ← sumN_add]
theorem sumN_ite {n p : Nat} (hp : p < n) (x : Rat) (h : Nat → Rat) : sumN n (fun i => if i = p then x else h i) = x + sumN n h - h p := by
  induction n with
  | zero => omega
  | succ n ih =>
    simp only [sumN]
    by_cases hpn : p = n
    · subst hpn
      rw [if_pos rfl, sumN_congr (g := h) (fun i hi => by rw [if_neg (by omega)])]; grind
    · rw [if_neg (fun e => hpn e.symm), ih (by omega)]; grind
theorem sumN_delta {n p : Nat} (hp : p < n) (f : Nat → Rat) : sumN n (fun i => f i * (if i = p then 1 else 0)) = f p := by
  have : sumN n (fun i => f i * (if i = p then 1 else 0)) = sumN n (fun i => if i = p then f p else 0) := sumN_congr fun i _ => by
    by_cases h : i = p
    · rw [if_pos h, if_pos h, h]; grind
    · rw [if_neg h, if_neg h]; grind
  rw [this, sumN_ite hp, sumN_zero]; grind
theorem sumN_nonneg {n : Nat} {f : Nat → Rat} (h : ∀ i, i < n → 0 ≤ f i) : 0 ≤ sumN n f := by
  induction n with
  | zero => simp only [sumN]; grind
  | succ n ih => simp only [sumN]; have := ih (fun i hi => h i (by omega)); have := h n (by omega); grind
theorem sumN_pos {n : Nat} {f : Nat → Rat} (h : 0 < sumN n f) : ∃ i, i < n ∧ 0 < f i := by
  refine Decidable.byContradiction fun hn => ?_
  have h0 : ∀ i, i < n → 0 ≤ (fun i => - f i) i := fun i hi => by
    have : ¬ 0 < f i := fun hp => hn ⟨i, hi, hp⟩
    show 0 ≤ - f i
    grind
  have h1 := sumN_nonneg h0
  have h2 : sumN n (fun i => - f i) = - sumN n f := by
    have := sumN_mul n f (-1)
    rw [sumN_congr (g := fun i => f i * (-1)) (fun i _ => by grind), this]; grind
  rw [h2] at h1
  grind
theorem sumN_zero_of_nonneg {n : Nat} {f : Nat → Rat} (h : ∀ i, i < n → 0 ≤ f i) (hs : sumN n f = 0) : ∀ i, i < n → f i = 0 := by
  intro i hi
  have h1 := sumN_ite hi 0 f
  have h2 : 0 ≤ sumN n (fun k => if k = i then 0 else f k) := sumN_nonneg fun k hk => by
    by_cases e : k = i
    · rw [if_pos e]; exact Rat.le_refl
    · rw [if_neg e]; exact h k hk
  have h3 := h i hi
  rw [h1, hs] at h2
  grind
structure S where
  r : Nat → Nat → Rat
  c : Nat → Rat
  b : Nat → Nat
def piv (s : S) (p q : Nat) : S where
  r i j := if i = p then s.r p j * (s.r p q)⁻¹ else s.r i j - s.r i q * (s.r p j * (s.r p q)⁻¹)
  c j := s.c j - s.c q * (s.r p j * (s.r p q)⁻¹)
  b i := if i = p then q else s.b i
def c0 (n cols j : Nat) : Rat := if cols ≤ j ∧ j < cols + n then 1 else 0
theorem c0_low {n cols j : Nat} (h : j < cols) : c0 n cols j = 0 := if_neg (by omega)
theorem c0_last {n cols : Nat} : c0 n cols (cols + n) = 0 := if_neg (by omega)
theorem c0_nonneg {n cols j : Nat} : 0 ≤ c0 n cols j := by unfold c0; split <;> grind
structure Inv (n cols : Nat) (A : Nat → Nat → Rat) (s : S) : Prop where
  comb : ∀ i, i < n → ∀ j, j ≤ cols + n → s.r i j = sumN n fun k => s.r i (cols + k) * A k j
  cost : ∀ j, j ≤ cols + n → s.c j = c0 n cols j - sumN n fun k => (1 - s.c (cols + k)) * A k j
  back : ∀ k, k < n → ∀ j, j ≤ cols + n → A k j = sumN n fun i => A k (s.b i) * s.r i j
  unit : ∀ i, i < n → ∀ l, l < n → s.r i (s.b l) = if i = l then 1 else 0
  art : ∀ j, j ≤ cols + n → s.c j = c0 n cols j - sumN n fun i => c0 n cols (s.b i) * s.r i j
  nn : ∀ i, i < n → 0 ≤ s.r i (cols + n)
  bl : ∀ i, i < n → s.b i < cols + n
variable {n cols : Nat} {A : Nat → Nat → Rat} {s s' : S}
theorem Inv.cb (h : Inv n cols A s) {l : Nat} (hl : l < n) : s.c (s.b l) = 0 := by
  rw [h.art _ (Nat.le_of_lt (h.bl l hl)), sumN_congr (g := fun i => c0 n cols (s.b i) * (if i = l then 1 else 0)) (fun i hi => by rw [h.unit i hi l hl]), sumN_delta hl]
  grind
theorem sum_piv {p q : Nat} (hp : p < n) (ha : s.r p q ≠ 0) (w : Nat → Rat) (j : Nat) :
    sumN n (fun i => w ((piv s p q).b i) * (piv s p q).r i j) = sumN n (fun i => w (s.b i) * s.r i j) + (w q - sumN n (fun i => w (s.b i) * s.r i q)) * (s.r p j * (s.r p q)⁻¹) := by
  have e : sumN n (fun i => w ((piv s p q).b i) * (piv s p q).r i j) = sumN n (fun i => if i = p then w q * (s.r p j * (s.r p q)⁻¹) else w (s.b i) * s.r i j - w (s.b i) * s.r i q * (s.r p j * (s.r p q)⁻¹)) := sumN_congr fun i _ => by
    simp only [piv]
    by_cases h : i = p
    · rw [if_pos h, if_pos h, if_pos h]
    · rw [if_neg h, if_neg h, if_neg h]; grind
  rw [e, sumN_ite hp, sumN_sub, sumN_mul]
  have h1 := Rat.mul_inv_cancel _ ha
  generalize (s.r p q)⁻¹ = y at *
  grind
theorem Inv.piv (h : Inv n cols A s) {p q : Nat} (hp : p < n) (hq : q < cols) (ha : 0 < s.r p q)
    (hr : ∀ i, i < n → 0 < s.r i q → s.r p (cols + n) * (s.r p q)⁻¹ ≤ s.r i (cols + n) * (s.r i q)⁻¹) : Inv n cols A (piv s p q) := by
  have ha0 : s.r p q ≠ 0 := by grind
  have hinv : 0 < (s.r p q)⁻¹ := Rat.inv_pos.2 ha
  have hcan := Rat.mul_inv_cancel _ ha0
  refine ⟨fun i hi j hj => ?_, fun j hj => ?_, fun k hk j hj => ?_, fun i hi l hl => ?_, fun j hj => ?_, fun i hi => ?_, fun i hi => ?_⟩
  · have h1 := h.comb i hi j hj
    have h2 := h.comb p hp j hj
    simp only [Simplex.piv]
    by_cases e : i = p
    · simp only [if_pos e]
      rw [h2, ← sumN_mul]
      exact sumN_congr fun k _ => by grind
    · simp only [if_neg e]
      have h3 : sumN n (fun k => (s.r i (cols + k) - s.r i q * (s.r p (cols + k) * (s.r p q)⁻¹)) * A k j) = sumN n (fun k => s.r i (cols + k) * A k j) - sumN n (fun k => s.r p (cols + k) * A k j) * (s.r i q * (s.r p q)⁻¹) := by
        rw [← sumN_mul, ← sumN_sub]
        exact sumN_congr fun k _ => by grind
      rw [h3, ← h1, ← h2]; grind
  · have h1 := h.cost j hj
    have h2 := h.comb p hp j hj
    simp only [Simplex.piv]
    have h3 : sumN n (fun k => (1 - (s.c (cols + k) - s.c q * (s.r p (cols + k) * (s.r p q)⁻¹))) * A k j) = sumN n (fun k => (1 - s.c (cols + k)) * A k j) + sumN n (fun k => s.r p (cols + k) * A k j) * (s.c q * (s.r p q)⁻¹) := by
      rw [← sumN_mul, ← sumN_add]
      exact sumN_congr fun k _ => by grind
    rw [h3, ← h2]; grind
  · rw [sum_piv hp ha0 (fun x => A k x) j, ← h.back k hk j hj, ← h.back k hk q (by omega)]; grind
  · simp only [Simplex.piv]
    by_cases hl' : l = p
    · simp only [if_pos hl']
      by_cases hi' : i = p
      · rw [if_pos hi', if_pos (by omega)]; exact hcan
      · rw [if_neg hi', if_neg (by omega)]; grind
    · simp only [if_neg hl']
      have hz : s.r p (s.b l) = 0 := by rw [h.unit p hp l hl, if_neg (fun e => hl' e.symm)]
      rw [hz]
      by_cases hi' : i = p
      · rw [if_pos hi', if_neg (by omega)]; grind
      · rw [if_neg hi', h.unit i hi l hl]; grind
  · rw [sum_piv hp ha0 (c0 n cols) j]
    have h1 := h.art j hj
    have h2 := h.art q (by omega)
    have h3 := c0_low (n := n) hq
    simp only [Simplex.piv]
    grind
  · simp only [Simplex.piv]
    by_cases hi' : i = p
    · rw [if_pos hi']; exact Rat.mul_nonneg (h.nn p hp) (Rat.le_of_lt hinv)
    · rw [if_neg hi']
      have hx := h.nn i hi
      have hy : 0 ≤ s.r p (cols + n) * (s.r p q)⁻¹ := Rat.mul_nonneg (h.nn p hp) (Rat.le_of_lt hinv)
      by_cases hs : 0 < s.r i q
      · have h1 := hr i hi hs
        have h2 := Rat.mul_le_mul_of_nonneg_left h1 (Rat.le_of_lt hs)
        have h3 := Rat.mul_inv_cancel _ (show s.r i q ≠ 0 by grind)
        have h4 : s.r i q * (s.r i (cols + n) * (s.r i q)⁻¹) = s.r i (cols + n) := by
          have : s.r i q * (s.r i (cols + n) * (s.r i q)⁻¹) = s.r i (cols + n) * (s.r i q * (s.r i q)⁻¹) := by grind
          rw [this, h3]; grind
        rw [h4] at h2; grind
      · have h1 : 0 ≤ - s.r i q := by grind
        have h2 := Rat.mul_nonneg h1 hy
        grind
  · simp only [Simplex.piv]
    by_cases hi' : i = p
    · rw [if_pos hi']; omega
    · rw [if_neg hi']; exact h.bl i hi
theorem Inv.two (h : Inv n cols A s) (h' : Inv n cols A s') {j : Nat} (hj : j ≤ cols + n) : s'.c j = s.c j + sumN n fun i => s'.c (s.b i) * s.r i j := by
  have e1 : sumN n (fun k => (1 - s'.c (cols + k)) * A k j) = sumN n (fun i => (c0 n cols (s.b i) - s'.c (s.b i)) * s.r i j) := by
    have : ∀ k, k < n → (1 - s'.c (cols + k)) * A k j = sumN n (fun i => (1 - s'.c (cols + k)) * A k (s.b i) * s.r i j) := fun k hk => by
      rw [h.back k hk j hj]
      have := sumN_mul n (fun i => A k (s.b i) * s.r i j) (1 - s'.c (cols + k))
      rw [Rat.mul_comm, ← this]
      exact sumN_congr fun i _ => by grind
    rw [sumN_congr this, sumN_swap]
    refine sumN_congr fun i hi => ?_
    rw [sumN_mul]
    congr 1
    have := h'.cost (s.b i) (Nat.le_of_lt (h.bl i hi))
    grind
  rw [h'.cost j hj, e1, h.art j hj]
  have e2 : sumN n (fun i => (c0 n cols (s.b i) - s'.c (s.b i)) * s.r i j) = sumN n (fun i => c0 n cols (s.b i) * s.r i j) - sumN n (fun i => s'.c (s.b i) * s.r i j) := by
    rw [← sumN_sub]; exact sumN_congr fun i _ => by grind
  rw [e2]; grind
theorem Inv.row (h : Inv n cols A s) {q : Nat} (hq : q < cols) (hc : s.c q < 0) : ∃ i, i < n ∧ 0 < s.r i q := by
  have h1 := h.art q (by omega)
  rw [c0_low hq] at h1
  obtain ⟨i, hi, hp⟩ := sumN_pos (n := n) (f := fun i => c0 n cols (s.b i) * s.r i q) (by grind)
  refine ⟨i, hi, ?_⟩
  simp only [c0] at hp
  split at hp <;> grind
theorem Inv.last_nonpos (h : Inv n cols A s) : s.c (cols + n) ≤ 0 := by
  have h1 := h.art (cols + n) (Nat.le_refl _)
  rw [c0_last] at h1
  have : 0 ≤ sumN n (fun i => c0 n cols (s.b i) * s.r i (cols + n)) := sumN_nonneg fun i hi => Rat.mul_nonneg c0_nonneg (h.nn i hi)
  grind
def value (n : Nat) (s : S) (last v : Nat) : Rat := sumN n fun i => if s.b i = v then s.r i last else 0
theorem Inv.value_basic (h : Inv n cols A s) {i : Nat} (hi : i < n) : value n s (cols + n) (s.b i) = s.r i (cols + n) := by
  unfold value
  have : sumN n (fun k => if s.b k = s.b i then s.r k (cols + n) else 0) = sumN n (fun k => if k = i then s.r i (cols + n) else 0) := sumN_congr fun k hk => by
    by_cases e : k = i
    · rw [e]; simp
    · rw [if_neg e, if_neg]
      intro hb
      have h1 := h.unit k hk i hi
      rw [← hb, h.unit k hk k hk, if_pos rfl, if_neg e] at h1
      grind
  rw [this, sumN_ite hi, sumN_zero]; grind
theorem value_out {v : Nat} (hv : ∀ i, i < n → s.b i ≠ v) (last : Nat) : value n s last v = 0 := by
  unfold value
  rw [sumN_congr (g := fun _ => 0) (fun i hi => if_neg (hv i hi)), sumN_zero]
theorem Inv.basis_inj (h : Inv n cols A s) {i k : Nat} (hi : i < n) (hk : k < n) (hb : s.b i = s.b k) : i = k := by
  have h1 := h.unit i hi k hk
  rw [← hb, h.unit i hi i hi, if_pos rfl] at h1
  by_cases e : i = k
  · exact e
  · rw [if_neg e] at h1; grind
theorem Inv.value_nonneg (h : Inv n cols A s) (v : Nat) : 0 ≤ value n s (cols + n) v := sumN_nonneg fun i hi => by
  by_cases e : s.b i = v
  · rw [if_pos e]; exact h.nn i hi
  · rw [if_neg e]; exact Rat.le_refl
theorem sumN_select {m : Nat} (f : Nat → Rat) {v : Nat} (x : Rat) : sumN m (fun j => f j * (if v = j then x else 0)) = if v < m then f v * x else 0 := by
  by_cases hv : v < m
  · rw [if_pos hv]
    have : sumN m (fun j => f j * (if v = j then x else 0)) = sumN m (fun j => if j = v then f v * x else 0) := sumN_congr fun j _ => by
      by_cases e : j = v
      · subst e; simp
      · rw [if_neg e, if_neg (fun h => e h.symm)]; grind
    rw [this, sumN_ite hv, sumN_zero]; grind
  · rw [if_neg hv, sumN_congr (g := fun _ => 0) (fun j hj => by rw [if_neg (by omega)]; grind), sumN_zero]
theorem Inv.solves (h : Inv n cols A s) (hz : s.c (cols + n) = 0) {k : Nat} (hk : k < n) : sumN cols (fun j => A k j * value n s (cols + n) j) = A k (cols + n) := by
  have h1 := h.art (cols + n) (Nat.le_refl _)
  rw [c0_last, hz] at h1
  have hart := sumN_zero_of_nonneg (n := n) (f := fun i => c0 n cols (s.b i) * s.r i (cols + n)) (fun i hi => Rat.mul_nonneg c0_nonneg (h.nn i hi)) (by grind)
  rw [h.back k hk _ (Nat.le_refl _)]
  have e : sumN cols (fun j => A k j * value n s (cols + n) j) = sumN n (fun i => sumN cols (fun j => A k j * (if s.b i = j then s.r i (cols + n) else 0))) := by
    rw [sumN_swap]
    refine sumN_congr fun j _ => ?_
    unfold value
    have := sumN_mul n (fun i => if s.b i = j then s.r i (cols + n) else 0) (A k j)
    rw [Rat.mul_comm, ← this]
    exact sumN_congr fun i _ => by grind
  rw [e]
  refine sumN_congr fun i hi => ?_
  rw [sumN_select]
  by_cases hb : s.b i < cols
  · rw [if_pos hb]
  · rw [if_neg hb]
    have h2 := hart i hi
    have h3 : c0 n cols (s.b i) = 1 := if_pos ⟨by omega, h.bl i hi⟩
    simp only [h3] at h2
    have : s.r i (cols + n) = 0 := by grind
    rw [this]; grind
def Enter (cols : Nat) (s : S) (q : Nat) : Prop := q < cols ∧ s.c q < 0 ∧ ∀ j, j < q → 0 ≤ s.c j
def Leave (n cols : Nat) (s : S) (q p : Nat) : Prop := p < n ∧ 0 < s.r p q ∧ ∀ i, i < n → 0 < s.r i q →
  s.r p (cols + n) * (s.r p q)⁻¹ < s.r i (cols + n) * (s.r i q)⁻¹ ∨ (s.r p (cols + n) * (s.r p q)⁻¹ = s.r i (cols + n) * (s.r i q)⁻¹ ∧ s.b p ≤ s.b i)
theorem Leave.ratio {q p : Nat} (h : Leave n cols s q p) : ∀ i, i < n → 0 < s.r i q → s.r p (cols + n) * (s.r p q)⁻¹ ≤ s.r i (cols + n) * (s.r i q)⁻¹ := fun i hi hs => by
  rcases h.2.2 i hi hs with h1 | ⟨h1, _⟩
  · exact Rat.le_of_lt h1
  · rw [h1]; exact Rat.le_refl
structure Run (n cols m : Nat) (A : Nat → Nat → Rat) (st : Nat → S) (en le : Nat → Nat) : Prop where
  inv : Inv n cols A (st 0)
  ent : ∀ k, k < m → Enter cols (st k) (en k)
  lea : ∀ k, k < m → Leave n cols (st k) (en k) (le k)
  nxt : ∀ k, k < m → st (k + 1) = piv (st k) (le k) (en k)
variable {m : Nat} {st : Nat → S} {en le : Nat → Nat}
theorem Run.invs (h : Run n cols m A st en le) : ∀ k, k ≤ m → Inv n cols A (st k)
  | 0, _ => h.inv
  | k + 1, hk => by
    rw [h.nxt k (by omega)]
    exact (h.invs k (by omega)).piv (h.lea k (by omega)).1 (h.ent k (by omega)).1 (h.lea k (by omega)).2.1 (h.lea k (by omega)).ratio
def Basic (n : Nat) (s : S) (v : Nat) : Prop := ∃ i, i < n ∧ s.b i = v
theorem Run.enters (h : Run n cols m A st en le) {v : Nat} : ∀ {d i : Nat}, i + d ≤ m → ¬ Basic n (st i) v → Basic n (st (i + d)) v → ∃ e, i ≤ e ∧ e < i + d ∧ en e = v
  | 0, i, _, h1, h2 => absurd h2 h1
  | d + 1, i, hm, h1, h2 => by
    by_cases hb : Basic n (st (i + d)) v
    · obtain ⟨e, e1, e2, e3⟩ := h.enters (d := d) (by omega) h1 hb
      exact ⟨e, e1, by omega, e3⟩
    · obtain ⟨l, hl, hlb⟩ := h2
      rw [← Nat.add_assoc, h.nxt (i + d) (by omega)] at hlb
      simp only [piv] at hlb
      split at hlb
      · exact ⟨i + d, by omega, by omega, hlb⟩
      · exact absurd ⟨l, hl, hlb⟩ hb
theorem Run.leaves (h : Run n cols m A st en le) {v : Nat} : ∀ {d i : Nat}, i + d ≤ m → Basic n (st i) v → ¬ Basic n (st (i + d)) v → ∃ e, i ≤ e ∧ e < i + d ∧ (st e).b (le e) = v
  | 0, i, _, h1, h2 => absurd h1 h2
  | d + 1, i, hm, h1, h2 => by
    by_cases hb : Basic n (st (i + d)) v
    · obtain ⟨l, hl, hlb⟩ := hb
      refine ⟨i + d, by omega, by omega, ?_⟩
      refine Decidable.byContradiction fun hne => h2 ⟨l, hl, ?_⟩
      rw [← Nat.add_assoc, h.nxt (i + d) (by omega)]
      simp only [piv]
      rw [if_neg]
      · exact hlb
      · intro e; rw [e] at hlb; exact hne hlb
    · obtain ⟨e, e1, e2, e3⟩ := h.leaves (d := d) (by omega) h1 hb
      exact ⟨e, e1, by omega, e3⟩
theorem Run.not_basic (h : Run n cols m A st en le) {k : Nat} (hk : k < m) : ¬ Basic n (st k) (en k) := by
  rintro ⟨i, hi, hb⟩
  have h1 := (h.invs k (by omega)).cb hi
  rw [hb] at h1
  have := (h.ent k hk).2.1
  grind
theorem Run.basic_next (h : Run n cols m A st en le) {k : Nat} (hk : k < m) : Basic n (st (k + 1)) (en k) := by
  refine ⟨le k, (h.lea k hk).1, ?_⟩
  rw [h.nxt k hk]; simp [piv]
theorem Run.step_cost (h : Run n cols m A st en le) {k : Nat} (hk : k < m) : (st (k + 1)).c (cols + n) = (st k).c (cols + n) - (st k).c (en k) * ((st k).r (le k) (cols + n) * ((st k).r (le k) (en k))⁻¹) ∧
    0 ≤ (st k).r (le k) (cols + n) * ((st k).r (le k) (en k))⁻¹ := by
  refine ⟨by rw [h.nxt k hk]; rfl, Rat.mul_nonneg ((h.invs k (by omega)).nn _ (h.lea k hk).1) (Rat.le_of_lt (Rat.inv_pos.2 (h.lea k hk).2.1))⟩
theorem Run.cost_mono (h : Run n cols m A st en le) : ∀ {d i : Nat}, i + d ≤ m → (st i).c (cols + n) ≤ (st (i + d)).c (cols + n)
  | 0, _, _ => Rat.le_refl
  | d + 1, i, hm => by
    have h1 := h.cost_mono (d := d) (i := i) (by omega)
    obtain ⟨h2, h3⟩ := h.step_cost (k := i + d) (by omega)
    have h4 := (h.ent (i + d) (by omega)).2.1
    have h5 := Rat.mul_nonneg (show 0 ≤ - (st (i + d)).c (en (i + d)) by grind) h3
    rw [← Nat.add_assoc, h2]
    generalize (st (i + d)).r (le (i + d)) (cols + n) * ((st (i + d)).r (le (i + d)) (en (i + d)))⁻¹ = y at *
    grind
theorem Run.no_cycle (h : Run n cols m A st en le) {a z : Nat} (haz : a < z) (hz : z ≤ m) : ¬ (∀ i, i < n → (st a).b i = (st z).b i) := by
  intro hb
  have hbas : ∀ v, Basic n (st a) v ↔ Basic n (st z) v := fun v => ⟨fun ⟨i, hi, e⟩ => ⟨i, hi, by rw [← hb i hi]; exact e⟩, fun ⟨i, hi, e⟩ => ⟨i, hi, by rw [hb i hi]; exact e⟩⟩
  have hcost : (st z).c (cols + n) = (st a).c (cols + n) := by
    rw [(h.invs a (by omega)).two (h.invs z hz) (Nat.le_refl _)]
    rw [sumN_congr (g := fun _ => 0) (fun i hi => by rw [hb i hi, (h.invs z hz).cb hi]; grind), sumN_zero]; grind
  -- all steps between are degenerate
  have hdeg : ∀ k, a ≤ k → k < z → (st k).r (le k) (cols + n) = 0 := by
    intro k h1 h2
    have m1 := h.cost_mono (i := a) (d := k - a) (by omega)
    have m2 := h.cost_mono (i := k + 1) (d := z - (k + 1)) (by omega)
    rw [show a + (k - a) = k by omega] at m1
    rw [show k + 1 + (z - (k + 1)) = z by omega, hcost] at m2
    obtain ⟨s1, s2⟩ := h.step_cost (k := k) (by omega)
    have h4 := (h.ent k (by omega)).2.1
    have hx := (h.lea k (by omega)).2.1
    have hinv := Rat.inv_pos.2 hx
    rcases Rat.le_iff_lt_or_eq.1 s2 with e | e
    rotate_left
    · rcases Rat.mul_eq_zero.1 e.symm with e | e
      · exact e
      · rw [e] at hinv; grind
    · exfalso
      have := Rat.mul_pos (show 0 < - (st k).c (en k) by grind) e
      generalize (st k).r (le k) (cols + n) * ((st k).r (le k) (en k))⁻¹ = y at *
      grind
  -- so the values stay
  have hval1 : ∀ k, a ≤ k → k < z → ∀ v, value n (st (k + 1)) (cols + n) v = value n (st k) (cols + n) v := by
    intro k h1 h2 v
    have hd := hdeg k h1 h2
    unfold value
    refine sumN_congr fun i hi => ?_
    rw [h.nxt k (by omega)]
    simp only [piv]
    by_cases e : i = le k
    · subst e
      rw [hd]
      simp
    · simp only [if_neg e, hd]
      by_cases ev : (st k).b i = v
      · rw [if_pos ev, if_pos ev]; grind
      · rw [if_neg ev, if_neg ev]
  have hval : ∀ d k, a ≤ k → k + d ≤ z → ∀ v, value n (st (k + d)) (cols + n) v = value n (st k) (cols + n) v := by
    intro d
    induction d with
    | zero => intro k _ _ v; rfl
    | succ d ih => intro k h1 h2 v; rw [← Nat.add_assoc, hval1 (k + d) (by omega) (by omega) v, ih k h1 (by omega) v]
  have hvals : ∀ i k, a ≤ i → i ≤ z → a ≤ k → k ≤ z → ∀ v, value n (st i) (cols + n) v = value n (st k) (cols + n) v := by
    intro i k h1 h2 h3 h4 v
    have e1 := hval (i - a) a (Nat.le_refl _) (by omega) v
    have e2 := hval (k - a) a (Nat.le_refl _) (by omega) v
    rw [show a + (i - a) = i by omega] at e1
    rw [show a + (k - a) = k by omega] at e2
    rw [e1, e2]
  -- what is basic here and not there enters in between
  have hfick : ∀ i k v, a ≤ i → i ≤ z → a ≤ k → k ≤ z → ¬ Basic n (st i) v → Basic n (st k) v → ∃ e, a ≤ e ∧ e < z ∧ en e = v := by
    intro i k v h1 h2 h3 h4 hn hk
    rcases Nat.le_total i k with hik | hik
    · obtain ⟨e, e1, e2, e3⟩ := h.enters (d := k - i) (i := i) (by omega) hn (by rw [show i + (k - i) = k by omega]; exact hk)
      exact ⟨e, by omega, by omega, e3⟩
    · by_cases hbz : Basic n (st z) v
      · obtain ⟨e, e1, e2, e3⟩ := h.enters (d := z - i) (i := i) (by omega) hn (by rw [show i + (z - i) = z by omega]; exact hbz)
        exact ⟨e, by omega, by omega, e3⟩
      · obtain ⟨e, e1, e2, e3⟩ := h.enters (d := k - a) (i := a) (by omega) (fun hh => hbz ((hbas v).1 hh)) (by rw [show a + (k - a) = k by omega]; exact hk)
        exact ⟨e, by omega, by omega, e3⟩
  have hleft : ∀ i k v, a ≤ i → i ≤ z → a ≤ k → k ≤ z → Basic n (st i) v → ¬ Basic n (st k) v → ∃ e, a ≤ e ∧ e < z ∧ (st e).b (le e) = v := by
    intro i k v h1 h2 h3 h4 hn hk
    rcases Nat.le_total i k with hik | hik
    · obtain ⟨e, e1, e2, e3⟩ := h.leaves (d := k - i) (i := i) (by omega) hn (by rw [show i + (k - i) = k by omega]; exact hk)
      exact ⟨e, by omega, by omega, e3⟩
    · by_cases hbz : Basic n (st z) v
      · obtain ⟨e, e1, e2, e3⟩ := h.leaves (d := k - a) (i := a) (by omega) ((hbas v).2 hbz) (by rw [show a + (k - a) = k by omega]; exact hk)
        exact ⟨e, by omega, by omega, e3⟩
      · obtain ⟨e, e1, e2, e3⟩ := h.leaves (d := z - i) (i := i) (by omega) hn (by rw [show i + (z - i) = z by omega]; exact hbz)
        exact ⟨e, by omega, by omega, e3⟩
  -- the greatest variable that enters
  have hmax : ∃ k, a ≤ k ∧ k < z ∧ ∀ e, a ≤ e → e < z → en e ≤ en k := by
    have : ∀ d, a + d < z → ∃ k, a ≤ k ∧ k ≤ a + d ∧ ∀ e, a ≤ e → e ≤ a + d → en e ≤ en k := by
      intro d
      induction d with
      | zero => intro _; exact ⟨a, Nat.le_refl _, Nat.le_refl _, fun e h1 h2 => by rw [show e = a by omega]; exact Nat.le_refl _⟩
      | succ d ih =>
        intro hd
        obtain ⟨k, k1, k2, k3⟩ := ih (by omega)
        by_cases hc : en (a + (d + 1)) ≤ en k
        · refine ⟨k, k1, by omega, fun e h1 h2 => ?_⟩
          by_cases he : e = a + (d + 1)
          · rw [he]; exact hc
          · exact k3 e h1 (by omega)
        · refine ⟨a + (d + 1), by omega, Nat.le_refl _, fun e h1 h2 => ?_⟩
          by_cases he : e = a + (d + 1)
          · rw [he]; exact Nat.le_refl _
          · have := k3 e h1 (by omega); omega
    obtain ⟨k, k1, k2, k3⟩ := this (z - 1 - a) (by omega)
    exact ⟨k, k1, by omega, fun e h1 h2 => k3 e h1 (by omega)⟩
  obtain ⟨ks, ks1, ks2, ksm⟩ := hmax
  -- it enters at ks, and leaves at kd
  have nb := h.not_basic (k := ks) (by omega)
  have yb := h.basic_next (k := ks) (by omega)
  obtain ⟨kd, kd1, kd2, kd3⟩ := hleft (ks + 1) ks (en ks) (by omega) (by omega) ks1 (by omega) yb nb
  have ID := h.invs kd (by omega)
  have IS := h.invs ks (by omega)
  have hent := h.ent kd (by omega)
  have hlea := h.lea kd (by omega)
  have hes := h.ent ks (by omega)
  -- at the entering column of kd
  have hkey := ID.two IS (j := en kd) (by have := hent.1; omega)
  have hne : en kd ≠ en ks := by
    intro e
    have h1 := ID.cb hlea.1
    rw [kd3, ← e] at h1
    have := hent.2.1
    grind
  have hlt : en kd < en ks := by have := ksm kd kd1 kd2; omega
  have hge := hes.2.2 _ hlt
  obtain ⟨i, hi, hpos⟩ := sumN_pos (n := n) (f := fun i => (st ks).c ((st kd).b i) * (st kd).r i (en kd)) (by have := hent.2.1; grind)
  -- row i
  have hnbi : ¬ Basic n (st ks) ((st kd).b i) := by
    rintro ⟨l, hl, hlb⟩
    have h1 := IS.cb hl
    rw [hlb] at h1
    rw [h1] at hpos
    grind
  obtain ⟨e, e1, e2, e3⟩ := hfick ks kd _ ks1 (by omega) kd1 (by omega) hnbi ⟨i, hi, rfl⟩
  have hle := ksm e e1 e2
  rw [e3] at hle
  have hne2 : (st kd).b i ≠ en ks := by
    intro hh
    have : i = le kd := ID.basis_inj hi hlea.1 (by rw [hh, kd3])
    subst this
    rw [kd3] at hpos
    have h1 := hes.2.1
    have h2 := hlea.2.1
    have := Rat.mul_pos (show 0 < - (st ks).c (en ks) by grind) h2
    grind
  have hcn := hes.2.2 ((st kd).b i) (by omega)
  have hri : 0 < (st kd).r i (en kd) := by
    rcases Rat.le_total (a := (st kd).r i (en kd)) (b := 0) with hneg | hnn
    · exfalso
      have := Rat.mul_nonneg hcn (show 0 ≤ - (st kd).r i (en kd) by grind)
      grind
    · rcases Rat.le_iff_lt_or_eq.1 hnn with hh | hh
      · exact hh
      · exfalso; rw [← hh] at hpos; grind
  have hz0 : (st kd).r i (cols + n) = 0 := by
    rw [← ID.value_basic hi, hvals kd ks kd1 (by omega) ks1 (by omega), value_out (fun l hl hh => hnbi ⟨l, hl, hh⟩)]
  have hz1 := hdeg kd kd1 kd2
  rcases hlea.2.2 i hi hri with hh | ⟨_, hh⟩
  · rw [hz0, hz1] at hh; grind
  · rw [kd3] at hh; omega
theorem pigeon : ∀ (K : Nat) (f : Nat → Nat), (∀ i, i ≤ K → f i < K) → ∃ p q, p < q ∧ q ≤ K ∧ f p = f q
  | 0, f, h => absurd (h 0 (Nat.le_refl _)) (by omega)
  | K + 1, f, h => by
    by_cases hx : ∃ i, i < K + 1 ∧ f i = f (K + 1)
    · obtain ⟨i, hi, e⟩ := hx
      exact ⟨i, K + 1, hi, Nat.le_refl _, e⟩
    · have hn : ∀ i, i < K + 1 → f i ≠ f (K + 1) := fun i hi e => hx ⟨i, hi, e⟩
      obtain ⟨p, q, h1, h2, h3⟩ := pigeon K (fun i => if f i < f (K + 1) then f i else f i - 1) (fun i hi => by
        have h4 := h i (by omega)
        have h5 := h (K + 1) (Nat.le_refl _)
        have h6 := hn i (by omega)
        split <;> omega)
      refine ⟨p, q, h1, by omega, ?_⟩
      have h4 := hn p (by omega)
      have h5 := hn q (by omega)
      split at h3 <;> split at h3 <;> omega
def code (M : Nat) (b : Nat → Nat) : Nat → Nat
  | 0 => 0
  | k + 1 => code M b k * M + b k
theorem code_lt {M : Nat} {b : Nat → Nat} : ∀ {k : Nat}, (∀ i, i < k → b i < M) → code M b k < M ^ k
  | 0, _ => by simp [code]
  | k + 1, h => by
    have h1 := code_lt (k := k) (fun i hi => h i (by omega))
    have h2 := h k (by omega)
    simp only [code, Nat.pow_succ]
    have : code M b k * M + M ≤ M ^ k * M := by rw [← Nat.succ_mul]; exact Nat.mul_le_mul_right _ h1
    omega
theorem code_inj {M : Nat} {b c : Nat → Nat} : ∀ {k : Nat}, (∀ i, i < k → b i < M) → (∀ i, i < k → c i < M) → code M b k = code M c k → ∀ i, i < k → b i = c i
  | 0, _, _, _, i, hi => by omega
  | k + 1, hb, hc, h, i, hi => by
    simp only [code] at h
    have h1 := hb k (by omega)
    have h2 := hc k (by omega)
    have h3 : b k = c k := by
      have e1 : (code M b k * M + b k) % M = b k := by rw [Nat.mul_comm, Nat.mul_add_mod, Nat.mod_eq_of_lt h1]
      have e2 : (code M c k * M + c k) % M = c k := by rw [Nat.mul_comm, Nat.mul_add_mod, Nat.mod_eq_of_lt h2]
      rw [← e1, h, e2]
    by_cases hk : i = k
    · rw [hk]; exact h3
    · have h4 : code M b k = code M c k := by
        rw [h3] at h
        exact Nat.eq_of_mul_eq_mul_right (show 0 < M by omega) (by omega)
      exact code_inj (fun i hi => hb i (by omega)) (fun i hi => hc i (by omega)) h4 i (by omega)
theorem Run.short (h : Run n cols m A st en le) : m < (cols + n) ^ n := by
  refine Decidable.byContradiction fun hn => ?_
  have hb : ∀ k, k ≤ m → ∀ i, i < n → (st k).b i < cols + n := fun k hk i hi => (h.invs k hk).bl i hi
  obtain ⟨p, q, h1, h2, h3⟩ := pigeon ((cols + n) ^ n) (fun k => code (cols + n) (st k).b n) (fun k hk => code_lt (hb k (by omega)))
  exact h.no_cycle h1 (by omega) (code_inj (hb p (by omega)) (hb q (by omega)) h3)
end Go.Simplex
end
section
namespace Go.Whole
open Go Go.Vm
abbrev u32 (n : Nat) : Tr := .int .u32 (n : Int)
def dl (l : List Nat) : List Tr := l.map u32
def intC (nn : Bool) (z : Int) : List Tr := [.sl nn (dl (digs z.natAbs)), .bool (decide (z < 0))]
def encI (nn : Bool) (z : Int) : Tr := .agg (intC nn z)
def most : Nat := 4611686018427387903
def small (q : Rat) : Bool := decide (q.num.natAbs ≤ most) && decide (q.den ≤ most)
def ratC (q : Rat) : List Tr := if small q then [.int .i64 q.num, .int .i64 q.den, .sl false [], .bool false, .sl false [], .bool false] else [.int .i64 0, .int .i64 0, .sl true (dl (digs q.num.natAbs)), .bool (decide (q.num < 0)), .sl true (dl (digs q.den)), .bool false]
def encQ (q : Rat) : Tr := .agg (ratC q)
theorem ratC_length (q : Rat) : (ratC q).length = 6 := by unfold ratC; split <;> rfl
theorem ok_encQ (q : Rat) : elemOK true 6 (encQ q) := ⟨fun _ => rfl, (fun h => nomatch h), ratC_length q⟩
theorem ok_encI (nn : Bool) (z : Int) : elemOK true 2 (encI nn z) := ⟨fun _ => rfl, (fun h => nomatch h), rfl⟩
theorem small_true {q : Rat} (h : small q = true) : q.num.natAbs ≤ most ∧ q.den ≤ most := by simpa [small] using h
theorem ratC_small {q : Rat} (h : small q = true) : ratC q = [.int .i64 q.num, .int .i64 q.den, .sl false [], .bool false, .sl false [], .bool false] := if_pos h
theorem ratC_big {q : Rat} (h : small q = false) : ratC q = [.int .i64 0, .int .i64 0, .sl true (dl (digs q.num.natAbs)), .bool (decide (q.num < 0)), .sl true (dl (digs q.den)), .bool false] := if_neg (by simp [h])
theorem divInt_num {a b : Int} (hb : 0 < b) : (Rat.divInt a b).num = a.tdiv (Int.gcd a b) ∧ ((Rat.divInt a b).den : Int) = b.tdiv (Int.gcd a b) := by
  have hg : Int.gcd a b = Int.gcd b a := Int.gcd_comm a b
  have hd1 : ((Int.gcd b a : Nat) : Int) ∣ a := Int.gcd_dvd_right ..
  have hd2 : ((Int.gcd b a : Nat) : Int) ∣ b := Int.gcd_dvd_left ..
  rw [Rat.num_divInt, Rat.den_divInt, if_neg (by omega), hg, Int.sign_eq_one_of_pos hb, Int.one_mul]
  refine ⟨?_, ?_⟩
  · rw [Int.tdiv_eq_ediv_of_dvd hd1]
  · rw [Int.tdiv_eq_ediv_of_dvd hd2, Int.natCast_ediv]
    congr 1; omega
end Go.Whole
end
