/- The abstract machine: every order of a region that draws; the code; a function's contract out of its walk. -/
import Derived.Test.YtajgclnahfmfmaaVmB
import Derived.Deep.LoopGhost
namespace Go.Vm
open Go

section
variable {P : Program} {mu : Nat → Bool}

def opAt (ops : Array Oper) (i : Nat) : Oper := ops.toList.getD i default
/-- operations by their places -/
def StepsI (P : Program) (mu : Nat → Bool) (ops : Array Oper) : List Nat → St → St → Prop
  | [], s, s' => s' = s
  | i :: r, s, s' => ∃ s1, Step P mu ops.toList (opAt ops i) s s1 ∧ StepsI P mu ops r s1 s'

theorem Steps.toI {ops : Array Oper} : ∀ (l : List Oper) (k : Nat) (s s' : St), (∀ j, l[j]? = ops.toList[k + j]?) → Steps P mu ops.toList l s s' → StepsI P mu ops (List.range' k l.length) s s'
  | [], k, s, s', _, h => h
  | o :: l, k, s, s', hl, h => by
    obtain ⟨s1, h1, h2⟩ := h
    have h0 : ops.toList[k]? = some o := by simpa using (hl 0).symm
    refine ⟨s1, by simp only [opAt, List.getD, h0, Option.getD_some]; exact h1, ?_⟩
    exact Steps.toI l (k + 1) s1 s' (fun j => by have := hl (j + 1); simpa [Nat.add_assoc, Nat.add_comm 1 j] using this) h2

theorem StepsI.pull {ops : Array Oper} {j : Nat} : ∀ (pre post : List Nat) (s s' : St), (∀ i ∈ pre, indepB mu ops (opAt ops i) (opAt ops j) = true) → StepsI P mu ops (pre ++ j :: post) s s' →
    ∃ t, Step P mu ops.toList (opAt ops j) s t ∧ StepsI P mu ops (pre ++ post) t s'
  | [], post, s, s', _, h => h
  | i :: pre, post, s, s', hi, h => by
    obtain ⟨s1, h1, h2⟩ := h
    obtain ⟨t, h3, h4⟩ := StepsI.pull pre post s1 s' (fun k hk => hi k (by simp [hk])) h2
    obtain ⟨u, h5, h6⟩ := Step.swap (hi i (by simp)) h1 h3
    exact ⟨u, h5, t, h6, h4⟩

theorem preds_length : ∀ (l : List Oper) (acc : List Nat),
    (l.foldl (fun acc (o : Oper) => acc ++ [o.after.toList.foldl (fun s e => if Region.binds .any e then s ||| 2 ^ e.on ||| acc.getD e.on 0 else s) 0]) acc).length = acc.length + l.length
  | [], acc => by simp
  | o :: l, acc => by simp only [List.foldl_cons]; rw [preds_length l]; simp; omega

/-- what the bits say: whoever is listed with all whom it waits for has all of its bits listed -/
theorem preds_listed {ops : Array Oper} {listed : Array Bool} (hcl : ∀ (j : Nat) (o : Oper), ops.toList[j]? = some o → listed.getD j false = true → ∀ e ∈ o.after, Region.binds .any e = true → listed.getD e.on false = true) :
    ∀ (l : List Oper) (acc : List Nat), (∀ j, l[j]? = ops.toList[acc.length + j]?) →
      (∀ (k : Nat), k < acc.length → ∀ i, (acc.getD k 0).testBit i = true → listed.getD k false = true → listed.getD i false = true) →
      ∀ (k : Nat), ∀ i, ((l.foldl (fun acc (o : Oper) => acc ++ [o.after.toList.foldl (fun s e => if Region.binds .any e then s ||| 2 ^ e.on ||| acc.getD e.on 0 else s) 0]) acc).getD k 0).testBit i = true →
        k < acc.length + l.length → listed.getD k false = true → listed.getD i false = true
  | [], acc, _, ha, k, i, hb, hk, hlk => ha k (by simpa using hk) i hb hlk
  | o :: l, acc, hl, ha, k, i, hb, hk, hlk => by
    simp only [List.foldl_cons] at hb
    refine preds_listed hcl l (acc ++ [o.after.toList.foldl (fun s e => if Region.binds .any e then s ||| 2 ^ e.on ||| acc.getD e.on 0 else s) 0]) (fun j => by
      have := hl (j + 1)
      simp only [List.length_append, List.length_cons, List.length_nil, Nat.zero_add]
      simpa [Nat.add_assoc, Nat.add_comm 1 j] using this) ?_ k i hb (by simp at hk ⊢; omega) hlk
    intro k hk i hb hlk
    simp only [List.length_append, List.length_cons, List.length_nil, Nat.zero_add] at hk
    by_cases hka : k < acc.length
    · have : (acc ++ [o.after.toList.foldl (fun s e => if Region.binds .any e then s ||| 2 ^ e.on ||| acc.getD e.on 0 else s) 0]).getD k 0 = acc.getD k 0 := by
        simp [List.getD, List.getElem?_append_left hka]
      rw [this] at hb
      exact ha k hka i hb hlk
    · have hke : k = acc.length := by omega
      subst hke
      have h0 : ops.toList[acc.length]? = some o := by simpa using (hl 0).symm
      have hcl' := hcl _ o h0 hlk
      have hg : (acc ++ [o.after.toList.foldl (fun s e => if Region.binds .any e then s ||| 2 ^ e.on ||| acc.getD e.on 0 else s) 0]).getD acc.length 0 = o.after.toList.foldl (fun s e => if Region.binds .any e then s ||| 2 ^ e.on ||| acc.getD e.on 0 else s) 0 := by
        simp [List.getD]
      rw [hg] at hb
      have fold : ∀ (es : List Edge) (s : Nat), (∀ e ∈ es, Region.binds .any e = true → listed.getD e.on false = true) → (∀ i, s.testBit i = true → listed.getD i false = true) →
          ∀ i, (es.foldl (fun s e => if Region.binds .any e then s ||| 2 ^ e.on ||| acc.getD e.on 0 else s) s).testBit i = true → listed.getD i false = true := by
        intro es
        induction es with
        | nil => intro s _ hs i hb; exact hs i hb
        | cons e es ih =>
          intro s he hs i hb
          simp only [List.foldl_cons] at hb
          refine ih _ (fun e' he' => he e' (by simp [he'])) ?_ i hb
          intro i hb
          split at hb
          · rename_i hbd
            have hle := he e (by simp) hbd
            rw [Nat.testBit_or, Nat.testBit_or, Bool.or_eq_true, Bool.or_eq_true] at hb
            rcases hb with (hb | hb) | hb
            · exact hs i hb
            · rw [Nat.testBit_two_pow] at hb
              have : e.on = i := by simpa using hb
              rw [← this]; exact hle
            · by_cases hea : e.on < acc.length
              · exact ha e.on hea i hb hle
              · rw [show acc.getD e.on 0 = 0 by simp [List.getD, List.getElem?_eq_none (Nat.le_of_not_lt hea)]] at hb
                simp at hb
          · exact hs i hb
      exact fold o.after.toList 0 (fun e he hbd => hcl' e (by simpa using he) hbd) (fun i hb => by simp at hb) i hb

theorem drawOK_spec {ops : Array Oper} (h : drawOK mu ops = true) (j : Nat) (oj : Oper) (hj : ops.toList[j]? = some oj) :
    (∀ e ∈ oj.after, Region.binds .any e = true → e.on < j) ∧ ∀ (i : Nat) (oi : Oper), i < j → ops.toList[i]? = some oi → ((preds ops.toList).getD j 0).testBit i = true ∨ indepB mu ops oi oj = true := by
  simp only [drawOK, Bool.and_eq_true, List.all_eq_true] at h
  obtain ⟨hlen, hall⟩ := h
  have hz : (oj, j) ∈ ops.toList.zipIdx := by
    rw [List.mem_iff_getElem?]
    exact ⟨j, by simp [List.getElem?_zipIdx, hj]⟩
  have h1 := hall _ hz
  simp only [Bool.and_eq_true, List.all_eq_true, Bool.or_eq_true, Bool.not_eq_true', decide_eq_true_eq] at h1
  refine ⟨fun e he hb => ?_, fun i oi hij hi => ?_⟩
  · rcases h1.1 e (by simpa using he) with h | h
    · rw [hb] at h; cases h
    · exact h
  · refine h1.2 (oi, i) ?_
    rw [List.mem_iff_getElem?]
    refine ⟨i, ?_⟩
    rw [List.getElem?_zipIdx, List.getElem?_take, if_pos hij, hi]
    simp

section
variable {A : Nat → Prop} {h0 : Hp} {μ0 : Id → Nat} {w0 : World} {N : Nat} {Q : Exit → Act → World → Prop}

/-- EVERY ORDER. -/
theorem drawn_any {ops : Array Oper} (hd : ∀ o ∈ ops.toList, okDst N o = true) (hok : drawOK mu ops = true) {sf : St} (hQ : ∀ μ a w, Rel A h0 μ0 w0 N sf μ a w → Q .normal a w) :
    ∀ (fuel : Nat) (R : List Nat) (listed : Array Bool) (s : St) (μ : Id → Nat) (a : Act) (w : World), R.length ≤ fuel → listed.size = ops.size →
      (∀ j, j ∈ R ↔ (j < ops.size ∧ listed.getD j true = false)) → R.Pairwise (· < ·) →
      (∀ (j : Nat) (o : Oper), ops.toList[j]? = some o → listed.getD j false = true → ∀ e ∈ o.after, Region.binds .any e = true → listed.getD e.on false = true) →
      Rel A h0 μ0 w0 N s μ a w → StepsI P mu ops R s sf → wpAny P .any ops Q fuel listed a w := by
  have dflt : ∀ (listed : Array Bool) (j : Nat), j < listed.size → listed.getD j true = listed.getD j false := fun listed j hj => by simp [Array.getD, hj]
  have noReady : ∀ (R : List Nat) (listed : Array Bool), listed.size = ops.size → (∀ j, j ∈ R ↔ (j < ops.size ∧ listed.getD j true = false)) → R.Pairwise (· < ·) → Region.ready .any ops listed = [] → R = [] := by
    intro R listed hsz hR hp hr
    cases R with
    | nil => rfl
    | cons j r =>
      exfalso
      obtain ⟨hj1, hj2⟩ := (hR j).1 (by simp)
      have hjo : ops.toList[j]? = some ops[j] := by simp [hj1]
      have hmem : j ∈ Region.ready .any ops listed := by
        rw [mem_ready]
        refine ⟨hj2, ops[j], Array.getElem?_eq_getElem hj1, fun e he hb => ?_⟩
        have hlt := (drawOK_spec hok j _ hjo).1 e he hb
        cases hl : listed.getD e.on false with
        | true => rfl
        | false =>
          exfalso
          have : e.on ∈ j :: r := (hR e.on).2 ⟨by omega, by rw [dflt _ _ (by omega)]; exact hl⟩
          rcases List.mem_cons.1 this with h | h
          · omega
          · have := (List.pairwise_cons.1 hp).1 e.on h; omega
      rw [hr] at hmem; cases hmem
  intro fuel
  induction fuel with
  | zero =>
    intro R listed s μ a w hl hsz hR hp hcl hr hs
    have : R = [] := List.eq_nil_of_length_eq_zero (by omega)
    subst this
    have hs' : sf = s := hs
    subst hs'
    refine ⟨?_, hQ μ a w hr⟩
    cases hrd : Region.ready .any ops listed with
    | nil => rfl
    | cons j r =>
      have : j ∈ Region.ready .any ops listed := by rw [hrd]; simp
      rw [mem_ready] at this
      obtain ⟨h1, o, h2, _⟩ := this
      have := (hR j).2 ⟨(Array.getElem?_eq_some_iff.1 h2).1, h1⟩
      simp at this
  | succ fuel ih =>
    intro R listed s μ a w hl hsz hR hp hcl hr hs
    refine ⟨fun hrd => ?_, fun j hj => ?_⟩
    · have := noReady R listed hsz hR hp hrd
      subst this
      have hs' : sf = s := hs
      subst hs'
      exact hQ μ a w hr
    · obtain ⟨hun, oj, hoj, hall⟩ := mem_ready.1 hj
      have hjlt := (Array.getElem?_eq_some_iff.1 hoj).1
      have hjR : j ∈ R := (hR j).2 ⟨hjlt, hun⟩
      have hojl : ops.toList[j]? = some oj := by rw [Array.getElem?_toList]; exact hoj
      have hat : opAt ops j = oj := by simp only [opAt, List.getD, hojl, Option.getD_some]
      obtain ⟨pre, post, rfl⟩ := List.append_of_mem hjR
      -- with j listed, all is still closed
      have hcl' : ∀ (k : Nat) (o : Oper), ops.toList[k]? = some o → (listed.setIfInBounds j true).getD k false = true → ∀ e ∈ o.after, Region.binds .any e = true → (listed.setIfInBounds j true).getD e.on false = true := by
        intro k o hk hlk e he hb
        by_cases hkj : k = j
        · subst hkj
          rw [hojl] at hk; cases hk
          exact getD_set_true (hall e he hb)
        · rw [getD_set_ne false (Ne.symm hkj)] at hlk
          exact getD_set_true (hcl k o hk hlk e he hb)
      have hind : ∀ i ∈ pre, indepB mu ops (opAt ops i) (opAt ops j) = true := by
        intro i hi
        have hiR : i ∈ pre ++ j :: post := by simp [hi]
        obtain ⟨h1, h2⟩ := (hR i).1 hiR
        have hij : i < j := (List.pairwise_append.1 hp).2.2 i hi j (by simp)
        have hio : ops.toList[i]? = some ops[i] := by simp [h1]
        rcases (drawOK_spec hok j oj hojl).2 i ops[i] hij hio with hb | hb
        · exfalso
          have hnone : (preds ops.toList).getD j 0 = ((ops.toList.foldl (fun acc (o : Oper) => acc ++ [o.after.toList.foldl (fun s e => if Region.binds .any e then s ||| 2 ^ e.on ||| acc.getD e.on 0 else s) 0]) [])).getD j 0 := rfl
          rw [hnone] at hb
          have := preds_listed hcl' ops.toList [] (fun k => by simp) (fun k hk => by simp at hk) j i hb (by simpa using hjlt) (by
            have : j < listed.size := by omega
            simp [Array.getD, this])
          rw [getD_set_ne false (by omega)] at this
          rw [dflt _ _ (by omega)] at h2
          rw [h2] at this; cases this
        · have : opAt ops i = ops[i] := by simp only [opAt, List.getD, hio, Option.getD_some]
          rw [this, hat]; exact hb
      obtain ⟨t, h1, h2⟩ := StepsI.pull pre post s sf hind hs
      rw [hat] at h1
      refine wpOp_mono (fun a' w' ⟨s', μ', he, hr'⟩ => ?_) (opG_good (K := fun x => x = t) hoj hr hd (opG_step.2 ⟨t, h1, rfl⟩))
      subst he
      refine ih (pre ++ post) (listed.setIfInBounds j true) s' μ' a' w' (by simp at hl ⊢; omega) (by simpa using hsz) (fun k => ?_) ?_ hcl' hr' h2
      · have hk := hR k
        simp only [List.mem_append, List.mem_cons] at hk ⊢
        by_cases hkj : k = j
        · subst hkj
          have hno : ¬ (k ∈ pre ∨ k ∈ post) := by
            obtain ⟨p1, p2, p3⟩ := List.pairwise_append.1 hp
            rintro (h | h)
            · have := p3 k h k (by simp); omega
            · have := (List.pairwise_cons.1 p2).1 k h; omega
          have : (listed.setIfInBounds k true).getD k true = true := by
            have : k < listed.size := by omega
            simp [Array.getD, this]
          simp [hno, this]
        · rw [getD_set_ne true (Ne.symm hkj), ← hk]
          simp [hkj]
      · obtain ⟨p1, p2, p3⟩ := List.pairwise_append.1 hp
        exact List.pairwise_append.2 ⟨p1, (List.pairwise_cons.1 p2).2, fun x hx y hy => p3 x hx y (by simp [hy])⟩

/-- THE CODE. -/
theorem wp_good (hm : P.follows .mixedOrders = true) : ∀ (c : Code) (s : St) (K : Ex → St → Prop) (μ : Id → Nat) (a : Act) (w : World), codeOK mu N c = true → Rel A h0 μ0 w0 N s μ a w → wp P mu c s K →
    c.wp P (fun e a' w' => ∃ e' s' μ', e = Ex.of e' ∧ K e' s' ∧ Rel A h0 μ0 w0 N s' μ' a' w') a w := by
  intro c
  induction c with
  | skip => intro s K μ a w _ hr hK; exact wp_skip ⟨.normal, s, μ, rfl, hK, hr⟩
  | ret => intro s K μ a w _ hr hK; exact wp_ret ⟨.ret, s, μ, rfl, hK, hr⟩
  | exit n => intro s K μ a w _ hr hK; exact wp_exit ⟨.exit n, s, μ, rfl, hK, hr⟩
  | region id ops dr =>
    intro s K μ a w hok hr hK
    simp only [codeOK, Bool.and_eq_true, List.all_eq_true] at hok
    simp only [Vm.wp] at hK
    cases dr with
    | false =>
      refine wp_region ?_
      have hl : (List.range ops.size).length = ops.toList.length := by simp
      refine opsW_list hok.1 (List.range ops.size) ops.toList s μ a w hl (fun k i o h1 h2 => ?_) hr hK (fun s' μ' a' w' h1 h2 => ⟨.normal, s', μ', rfl, h1, h2⟩)
      have hk : k < ops.size := by
        have := (List.getElem?_eq_some_iff.1 h2).1; simpa using this
      rw [List.getElem?_range hk] at h1
      cases h1
      rw [← Array.getElem?_toList]; exact h2
    | true =>
      simp only [Bool.not_true, Bool.false_or, Bool.and_eq_true] at hok
      obtain ⟨sf, h1, h2⟩ := (opsW_steps ops.toList s).1 hK
      refine wp_region_any hm ?_
      have hr' : Rel A h0 μ0 w0 N s μ a { w with drawn := w.drawn + 1 } := by
        have hb : RowKit.Below w.heap.size w { w with drawn := w.drawn + 1 } := ⟨rfl, rfl, rfl, Nat.le_refl _, fun _ _ => rfl⟩
        obtain ⟨g1, g2⟩ := Ext.grow hr.hp hb
        exact ⟨hr.sz, hr.df, fun t => (hr.sl t).ext g2, g1, hr.ext.trans g2⟩
      have hI := Steps.toI ops.toList 0 s sf (fun j => by simp) h1
      rw [← List.range_eq_range', Array.length_toList] at hI
      refine drawn_any hok.1 hok.2.1 (fun μ a w h => ⟨.normal, sf, μ, rfl, h2, h⟩) ops.size (List.range ops.size) (Array.replicate ops.size false) s μ a _ (by simp) (by simp) (fun j => ?_) List.pairwise_lt_range (fun j o hj hl => ?_) hr' hI
      · simp only [List.mem_range]
        constructor
        · intro h; exact ⟨h, by simp [Array.getD, h]⟩
        · exact fun h => h.1
      · have : j < ops.size := by
          have := (List.getElem?_eq_some_iff.1 hj).1; simpa using this
        simp [Array.getD, this] at hl
  | seq x y ihx ihy =>
    intro s K μ a w hok hr hK
    simp only [codeOK, Bool.and_eq_true] at hok
    simp only [Vm.wp] at hK
    refine wp_seq (wp_mono (ihx s _ μ a w hok.1 hr hK) ?_)
    rintro e a' w' ⟨e', s', μ', rfl, hk, hr'⟩
    cases e' with
    | normal => exact ihy s' K μ' a' w' hok.2 hr' hk
    | exit n => exact ⟨.exit n, s', μ', rfl, hk, hr'⟩
    | ret => exact ⟨.ret, s', μ', rfl, hk, hr'⟩
  | cond c x y ihx ihy =>
    intro s K μ a w hok hr hK
    simp only [codeOK, Bool.and_eq_true] at hok
    simp only [Vm.wp] at hK
    split at hK
    · rename_i b hb
      have hc := ev_VR hr.sl c
      unfold boolOf at hb
      split at hb <;> simp at hb
      subst hb
      rename_i b hb
      rw [hb] at hc
      refine wp_cond_split (bool_of hc.tree) (fun h => ihx s K μ a w hok.1 hr (hK.1 h)) (fun h => ihy s K μ a w hok.2 hr (hK.2 h))
    · exact hK.elim
  | block id x ih =>
    intro s K μ a w hok hr hK
    simp only [codeOK] at hok
    simp only [Vm.wp] at hK
    refine wp_block (wp_mono (ih s _ μ a w hok hr hK) ?_)
    rintro e a' w' ⟨e', s', μ', rfl, hk, hr'⟩
    cases e' with
    | normal => exact ⟨.normal, s', μ', rfl, hk, hr'⟩
    | exit n =>
      simp only [Ex.of, Exit.inBlock]
      simp only at hk
      split
      · rename_i h; rw [if_pos h] at hk; exact ⟨.normal, s', μ', rfl, hk, hr'⟩
      · rename_i h; rw [if_neg h] at hk; exact ⟨.exit n, s', μ', rfl, hk, hr'⟩
    | ret => exact ⟨.ret, s', μ', rfl, hk, hr'⟩
  | loop x ih =>
    intro s K μ a w hok hr hK
    simp only [codeOK] at hok
    simp only [Vm.wp] at hK
    obtain ⟨I, n, hI0, hround⟩ := hK
    refine wp_loop_ghost (fun n a w => ∃ s μ, I n s ∧ Rel A h0 μ0 w0 N s μ a w) n ⟨s, μ, hI0, hr⟩ ?_
    rintro n a w ⟨s, μ, hI, hr⟩
    refine wp_mono (ih s _ μ a w hok hr (hround n s hI)) ?_
    rintro e a' w' ⟨e', s', μ', rfl, hk, hr'⟩
    cases e' with
    | normal =>
      obtain ⟨m, hlt, hm⟩ := hk
      exact ⟨m, hlt, s', μ', hm, hr'⟩
    | exit n => exact ⟨.exit n, s', μ', rfl, hk, hr'⟩
    | ret => exact ⟨.ret, s', μ', rfl, hk, hr'⟩
  | _ => intro s K μ a w hok; simp [codeOK] at hok
end
end
end Go.Vm
