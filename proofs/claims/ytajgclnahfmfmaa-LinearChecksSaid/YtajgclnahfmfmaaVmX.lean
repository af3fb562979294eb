/- The abstract machine, carried out: a run with fuel, and what it says about the code. -/
import Derived.Test.YtajgclnahfmfmaaVmI
namespace Go.Vm
open Go

section
variable (P : Program)

/-- a call of function g with the given values, in a state: the state behind it -/
abbrev Caller := (Nat → Bool) → Bool → Oper → St → FuncId → List PV → Option St

def xG (call : Caller) (mu : Nat → Bool) (dr : Bool) (all : List Oper) (o : Oper) (s : St) : Option St :=
  match guardRun all s.sl o with
  | some true => match callPart s.sl o with
    | some (some (g, args)) => call mu dr o s g args
    | some none => none
    | none => if dr && !bare mu o s.sl then none else match evalOp P mu o s with
      | some (v, h) => some (St.put { s with hp := h } o.dst v)
      | none => none
  | some false => some (St.put s o.dst .skip)
  | none => none

def xOps (call : Caller) (mu : Nat → Bool) (dr : Bool) (all : List Oper) : List Oper → St → Option St
  | [], s => some s
  | o :: r, s => match xG P call mu dr all o s with
    | some s' => xOps call mu dr all r s'
    | none => none

def xLoop (f : St → Option (Ex × St)) : Nat → St → Option (Ex × St)
  | 0, _ => none
  | n + 1, s => match f s with
    | some (.normal, s') => xLoop f n s'
    | r => r

def xRun (call : Caller) (mu : Nat → Bool) (n : Nat) : Code → St → Option (Ex × St)
  | .skip, s => some (.normal, s)
  | .ret, s => some (.ret, s)
  | .exit k, s => some (.exit k, s)
  | .region _ ops dr, s => match xOps P call mu dr ops.toList ops.toList s with
    | some s' => some (.normal, s')
    | none => none
  | .seq a b, s => match xRun call mu n a s with
    | some (.normal, s') => xRun call mu n b s'
    | r => r
  | .cond c a b, s => match boolOf (ev s.sl c) with
    | some true => xRun call mu n a s
    | some false => xRun call mu n b s
    | none => none
  | .block id b, s => match xRun call mu n b s with
    | some (.exit k, s') => if k = id then some (.normal, s') else some (.exit k, s')
    | r => r
  | .loop b, s => xLoop (fun s => xRun call mu n b s) n s
  | _, _ => none

/-- a function that is carried out -/
structure Fn where
  id : FuncId
  fn : Func
  code : Code
  mu : Nat → Bool
  sh : Bool
def Fn.Ok (f : Fn) : Prop := P.funcs[f.id]? = some f.fn ∧ f.fn.body = some f.code ∧ (f.fn.name == "runtime.NumGoroutine") = false ∧ codeOK f.mu f.fn.ntmps f.code = true

def findFn (g : FuncId) : List Fn → Option Fn
  | [] => none
  | f :: r => if f.id = g then some f else findFn g r
theorem findFn_some {g : FuncId} : ∀ {l : List Fn} {f : Fn}, findFn g l = some f → f ∈ l ∧ f.id = g
  | [], f, h => by simp [findFn] at h
  | x :: r, f, h => by
    simp only [findFn] at h
    split at h
    · rename_i e; cases h; exact ⟨by simp, e⟩
    · obtain ⟨h1, h2⟩ := findFn_some h; exact ⟨by simp [h1], h2⟩

variable (orc : FuncId → List Tr → Option Tr) (fs : List Fn)

mutual
/-- a call that takes trees -/
def xPure : Nat → FuncId → List Tr → Option Tr
  | 0, _, _ => none
  | n + 1, g, ts => match orc g ts with
    | some r => some r
    | none => match findFn g fs with
      | some f => if ts.length ≤ f.fn.ntmps then (match xRun P (xCall n) f.mu 1000 f.code (initSt ts) with
        | some (.exit _, _) => none
        | some (_, s) => resTr P s f.fn.results.toList
        | none => none) else none
      | none => none
/-- a call in the caller's heap -/
def xShared : Nat → FuncId → List PV → Hp → Option (PV × Hp)
  | 0, _, _, _ => none
  | n + 1, g, args, h => match findFn g fs with
    | some f => if f.sh = true ∧ args.length ≤ f.fn.ntmps then (match xRun P (xCall n) f.mu 1000 f.code (initStI args h) with
      | some (.exit _, _) => none
      | some (_, s) => match resI P s f.fn.results.toList with
        | some r => some (r, s.hp)
        | none => none
      | none => none) else none
    | none => none
def xCall : Nat → Caller
  | 0, _, _, _, _, _, _ => none
  | n + 1, mu, dr, o, s, g, args => match xShared n g args s.hp with
    | some (v, h) => if dr && !fatB mu o.dst then none else some (St.put { s with hp := h } o.dst v)
    | none => match mapO (toTr s.hp dep) args with
      | some ts => match xPure n g ts with
        | some r => if dr then (match trees args with
            | some _ => some (St.put s o.dst (.t r))
            | none => if fatB mu o.dst then some (St.put { s with hp := frz s.hp (args.flatMap (reach s.hp dep)) } o.dst (.t r)) else none)
          else if r.scalar then some (St.put s o.dst (.t r)) else some (St.put { s with hp := frz s.hp (args.flatMap (reach s.hp dep)) } o.dst (.t r))
        | none => none
      | none => none
end

variable {P orc fs}

/-- what a caller must keep -/
def CallOk (P : Program) (call : Caller) : Prop := ∀ mu dr o s g args s', call mu dr o s g args = some s' → ∀ K : St → Prop, K s' → callW P mu dr o s g args K

theorem xG_sound {call : Caller} (hc : CallOk P call) {mu : Nat → Bool} {dr : Bool} {all : List Oper} {o : Oper} {s s' : St} (h : xG P call mu dr all o s = some s') (K : St → Prop) (hK : K s') : opG P mu dr all o s K := by
  unfold xG at h
  unfold opG
  split at h
  · rename_i hg
    rw [hg]
    refine ⟨fun _ => ?_, fun h => by cases h⟩
    unfold opW
    split at h
    · rename_i g args hp
      rw [hp]
      exact hc _ _ _ _ _ _ _ h K hK
    · cases h
    · rename_i hp
      rw [hp]
      unfold plainW
      cases hnp : nextPart s.sl o with
      | some p =>
        have he : evalOp P mu o s = none := by
          unfold nextPart at hnp
          split at hnp
          · rename_i x hop; unfold evalOp; simp only [hop]
          · cases hnp
        rw [he] at h
        split at h <;> cases h
      | none =>
      simp only
      split at h
      · cases h
      · rename_i hb
        refine ⟨fun hd => ?_, ?_⟩
        · cases hbb : bare mu o s.sl with
          | true => rfl
          | false => rw [hd, hbb] at hb; exact absurd rfl hb
        · split at h
          · rename_i v hh he
            cases h
            rw [he]; exact hK
          · cases h
  · rename_i hg
    rw [hg]
    cases h
    exact ⟨fun h => (nomatch h), fun _ => hK⟩
  · cases h

theorem xOps_sound {call : Caller} (hc : CallOk P call) {mu : Nat → Bool} {dr : Bool} {all : List Oper} : ∀ (l : List Oper) (s s' : St), xOps P call mu dr all l s = some s' → ∀ K : St → Prop, K s' → opsW P mu dr all l s K
  | [], s, s', h, K, hK => by simp only [xOps, Option.some.injEq] at h; subst h; exact hK
  | o :: r, s, s', h, K, hK => by
    simp only [xOps] at h
    split at h
    · rename_i s1 h1
      exact xG_sound hc h1 _ (xOps_sound hc r s1 s' h K hK)
    · cases h

theorem xRun_sound {call : Caller} (hc : CallOk P call) {mu : Nat → Bool} {n : Nat} : ∀ (c : Code) (s : St) (e : Ex) (s' : St), xRun P call mu n c s = some (e, s') → ∀ K : Ex → St → Prop, K e s' → wp P mu c s K := by
  intro c
  induction c with
  | skip => intro s e s' h K hK; simp only [xRun, Option.some.injEq, Prod.mk.injEq] at h; obtain ⟨rfl, rfl⟩ := h; exact hK
  | ret => intro s e s' h K hK; simp only [xRun, Option.some.injEq, Prod.mk.injEq] at h; obtain ⟨rfl, rfl⟩ := h; exact hK
  | exit k => intro s e s' h K hK; simp only [xRun, Option.some.injEq, Prod.mk.injEq] at h; obtain ⟨rfl, rfl⟩ := h; exact hK
  | region id ops dr =>
    intro s e s' h K hK
    simp only [xRun] at h
    split at h
    · rename_i s1 h1
      simp only [Option.some.injEq, Prod.mk.injEq] at h; obtain ⟨rfl, rfl⟩ := h
      exact xOps_sound hc _ _ _ h1 _ hK
    · cases h
  | seq a b iha ihb =>
    intro s e s' h K hK
    simp only [xRun] at h
    simp only [wp]
    split at h
    · rename_i s1 h1
      exact iha _ _ _ h1 _ (ihb _ _ _ h K hK)
    · rename_i hne
      refine iha _ _ _ h _ ?_
      cases e with
      | normal => exact absurd h (hne s')
      | exit k => exact hK
      | ret => exact hK
  | cond c a b iha ihb =>
    intro s e s' h K hK
    simp only [xRun] at h
    simp only [wp]
    split at h
    · rename_i hb; rw [hb]; exact ⟨fun _ => iha _ _ _ h K hK, fun h => by cases h⟩
    · rename_i hb; rw [hb]; exact ⟨fun h => (nomatch h), fun _ => ihb _ _ _ h K hK⟩
    · cases h
  | block id b ih =>
    intro s e s' h K hK
    simp only [xRun] at h
    simp only [wp]
    split at h
    · rename_i k s1 h1
      refine ih _ _ _ h1 _ ?_
      simp only
      split at h
      · rename_i hk
        simp only [Option.some.injEq, Prod.mk.injEq] at h; obtain ⟨rfl, rfl⟩ := h
        rw [if_pos hk]; exact hK
      · rename_i hk
        simp only [Option.some.injEq, Prod.mk.injEq] at h; obtain ⟨rfl, rfl⟩ := h
        rw [if_neg hk]; exact hK
    · rename_i hne
      refine ih _ _ _ h _ ?_
      cases e with
      | normal => exact hK
      | exit k => exact absurd h (hne k s')
      | ret => exact hK
  | loop b ih =>
    intro s e s' h K hK
    simp only [xRun] at h
    simp only [wp]
    refine ⟨fun m s => xLoop (fun s => xRun P call mu n b s) m s = some (e, s'), n, h, ?_⟩
    intro m t hm
    cases m with
    | zero => simp [xLoop] at hm
    | succ m =>
      simp only [xLoop] at hm
      split at hm
      · rename_i t1 h1
        exact ih _ _ _ h1 _ ⟨m, by omega, hm⟩
      · rename_i hne
        refine ih _ _ _ hm _ ?_
        cases e with
        | normal => exact absurd hm (hne s')
        | exit k => exact hK
        | ret => exact hK
  | _ => intro s e s' h; simp [xRun] at h

theorem xAll_sound (hm : P.follows .mixedOrders = true) (horc : ∀ g ts r, orc g ts = some r → DCall P g ts r) (hfs : ∀ f ∈ fs, f.Ok P) : ∀ n : Nat,
    (∀ g ts r, xPure P orc fs n g ts = some r → DCall P g ts r) ∧
    (∀ g args h v h', xShared P orc fs n g args h = some (v, h') → ICall P g args h (fun v' h'' => v' = v ∧ h'' = h')) ∧
    CallOk P (xCall P orc fs n) := by
  intro n
  induction n with
  | zero => exact ⟨fun g ts r h => by simp [xPure] at h, fun g args h v h' hh => by simp [xShared] at hh, fun mu dr o s g args s' h => by simp [xCall] at h⟩
  | succ n ih =>
    obtain ⟨ih1, ih2, ih3⟩ := ih
    refine ⟨fun g ts r h => ?_, fun g args h v h' hh => ?_, fun mu dr o s g args s' h K hK => ?_⟩
    · simp only [xPure] at h
      split at h
      · rename_i r' hr; cases h; exact horc _ _ _ hr
      · split at h
        · rename_i f hf
          obtain ⟨hmem, rfl⟩ := findFn_some hf
          obtain ⟨k1, k2, k3, k4⟩ := hfs f hmem
          split at h
          · rename_i hlen
            refine dcall_of_wp hm k1 k2 k3 f.mu k4 hlen ?_
            split at h
            · cases h
            · rename_i e s hne hr
              refine xRun_sound ih3 _ _ _ _ hr _ ?_
              cases e with
              | normal => exact h
              | ret => exact h
              | exit k => exact (hne k rfl).elim
            · cases h
          · cases h
        · cases h
    · simp only [xShared] at hh
      split at hh
      · rename_i f hf
        obtain ⟨hmem, rfl⟩ := findFn_some hf
        obtain ⟨k1, k2, k3, k4⟩ := hfs f hmem
        split at hh
        · rename_i hlen
          refine icall_of_wp hm k1 k2 k3 f.mu k4 hlen.2 ?_
          split at hh
          · cases hh
          · rename_i e s hne hr
            refine xRun_sound ih3 _ _ _ _ hr _ ?_
            have fin : ∃ r, resI P s f.fn.results.toList = some r ∧ (r = v ∧ s.hp = h') := by
              split at hh
              · rename_i r hr2
                simp only [Option.some.injEq, Prod.mk.injEq] at hh
                exact ⟨r, hr2, hh⟩
              · cases hh
            cases e with
            | normal => exact fin
            | ret => exact fin
            | exit k => exact (hne k rfl).elim
          · cases hh
        · cases hh
      · cases hh
    · simp only [xCall] at h
      split at h
      · rename_i v h1 hs
        have hi := ih2 _ _ _ _ _ hs
        split at h
        · cases h
        · rename_i hb
          cases h
          unfold callW
          cases dr with
          | true =>
            rw [if_pos rfl]
            refine .inr ⟨?_, v, h1, .inl hi, hK⟩
            cases hf : fatB mu o.dst with
            | true => rfl
            | false => rw [hf] at hb; exact absurd rfl hb
          | false =>
            rw [if_neg (by simp)]
            refine .inr ⟨hi.1, fun w A μ vs hr hl hv => ?_⟩
            exact (hi.2 w A μ vs hr hl hv).mono (by
              rintro e w' ⟨v1, r, h2, μ', e1, ⟨rfl, rfl⟩, e3⟩
              exact ⟨v1, _, _, μ', e1, hK, e3⟩)
      · split at h
        · rename_i ts hts
          split at h
          · rename_i r hr
            have hd := ih1 _ _ _ hr
            unfold callW
            cases dr with
            | true =>
              rw [if_pos rfl]
              rw [if_pos rfl] at h
              split at h
              · rename_i ts' ht
                cases h
                have : ts' = ts := by
                  have e := trees_get ht
                  rw [e, mapO_t] at hts
                  exact Option.some.inj hts
                subst this
                exact .inl ⟨ts', r, ht, hd, hK⟩
              · split at h
                · rename_i hf
                  cases h
                  exact .inr ⟨hf, _, _, .inr ⟨ts, r, hts, hd, rfl, rfl⟩, hK⟩
                · cases h
            | false =>
              rw [if_neg (by simp)]
              rw [if_neg (by simp)] at h
              refine .inl ⟨ts, r, hts, hd, ?_⟩
              split at h
              · rename_i hsc
                cases h
                rw [if_pos hsc]; exact hK
              · rename_i hsc
                cases h
                rw [if_neg hsc]; exact hK
          · cases h
        · cases h
end
end Go.Vm
