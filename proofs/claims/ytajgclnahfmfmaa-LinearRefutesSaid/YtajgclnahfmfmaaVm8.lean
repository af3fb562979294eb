/- The abstract machine: slicing; every operation that is no call of a function, in one theorem. -/
import Derived.Test.YtajgclnahfmfmaaVm7
namespace Go.Vm
open Go

section
variable {P : Program} {A : Nat → Prop} {h : Hp} {μ : Id → Nat} {w : World}

theorem flat_drop (l : List Tr) (esz : Nat) (he : ∀ x ∈ l, x.cells.length = esz) : ∀ a, a ≤ l.length → flat (l.drop a) = (flat l).drop (a * esz) := by
  induction l with
  | nil => intro a _; simp [flat]
  | cons x r ih =>
    intro a ha
    cases a with
    | zero => simp
    | succ a =>
      have h1 := ih (fun y hy => he y (by simp [hy])) a (by simpa using ha)
      simp only [List.drop_succ_cons, h1]
      simp only [flat, List.flatMap_cons]
      have hx := he x (by simp)
      rw [Nat.succ_mul, List.drop_append]
      have e1 : List.drop (a * esz + esz) x.cells = [] := List.drop_eq_nil_of_le (by rw [hx]; omega)
      rw [e1, List.nil_append, hx]
      congr 1; omega
theorem flat_take (l : List Tr) (esz : Nat) (he : ∀ x ∈ l, x.cells.length = esz) : ∀ a, a ≤ l.length → flat (l.take a) = (flat l).take (a * esz) := by
  induction l with
  | nil => intro a _; simp [flat]
  | cons x r ih =>
    intro a ha
    cases a with
    | zero => simp [flat]
    | succ a =>
      have h1 := ih (fun y hy => he y (by simp [hy])) a (by simpa using ha)
      simp only [flat] at h1
      simp only [flat, List.take_succ_cons, List.flatMap_cons, h1]
      have hx := he x (by simp)
      rw [Nat.succ_mul, List.take_append]
      have e1 : x.cells.take (a * esz + esz) = x.cells := List.take_of_length_le (by rw [hx]; omega)
      rw [e1, hx]
      congr 2; omega

theorem flat_length (l : List Tr) (esz : Nat) (he : ∀ x ∈ l, x.cells.length = esz) : (flat l).length = l.length * esz := by
  induction l with
  | nil => simp [flat]
  | cons x r ih =>
    have := ih (fun y hy => he y (by simp [hy]))
    simp only [flat] at this
    simp only [flat, List.flatMap_cons, List.length_append, this, he x (by simp), List.length_cons, Nat.succ_mul]
    omega

/-- a bound of a slicing -/
def Bnd (v : Option Value) (d : Int) (a : Int) : Prop := (v = none ∧ a = d) ∨ ∃ k, v = some (.int k a)

theorem run_sliceBounds (b : Bool) {len cap : Nat} {lo hi : Option Value} {i j : Int} (h1 : Bnd lo 0 i) (h2 : Bnd hi len j) (h0 : 0 ≤ i) (hij : i ≤ j) (hj : j ≤ len) (hc : len ≤ cap) :
    (Instr.sliceBounds b len cap lo hi none).run P w = .ok (i.toNat, j.toNat, cap) w := by
  have hjc : j ≤ (cap : Int) := by omega
  have hj0 : 0 ≤ j := by omega
  have hmax : max j 0 = j := by omega
  rcases h1 with ⟨rfl, rfl⟩ | ⟨k, rfl⟩ <;> rcases h2 with ⟨rfl, rfl⟩ | ⟨k', rfl⟩ <;>
    simp [Instr.sliceBounds, Instr.sliceBound, asIntOf, h0, hij, hjc, hj0, hmax]

theorem tree_slice {L : Nat → Prop} {t e : TypeId} {nn : Bool} {l : List Tr} {u : Value} (hr : Reads w L (.sl nn l) u) (he : elemB P t = some e) (hfl : (flat l).length = l.length * P.cellsOf e)
    {lo hi : Option Value} {i j : Int} (h1 : Bnd lo 0 i) (h2 : Bnd hi l.length j) (h0 : 0 ≤ i) (hij : i ≤ j) (hj : j ≤ l.length) :
    ∃ u', (Instr.sliceAt t u lo hi none).run P w = .ok u' w ∧ Reads w L (.sl nn ((l.take j.toNat).drop i.toNat)) u' := by
  obtain ⟨hu, hi'⟩ := elem_under he
  have hrun : ∀ (a : Option Addr) (cap : Nat), l.length ≤ cap → (Instr.sliceAt t (.slice a l.length cap) lo hi none).run P w = .ok (.slice (if cap = i.toNat then a else a.map (·.add (i.toNat * P.cellsOf e))) (j.toNat - i.toNat) (cap - i.toNat)) w := by
    intro a cap hc
    simp [Instr.sliceAt, run_underlying hu, Instr.slice, run_sliceBounds (P := P) (w := w) true h1 h2 h0 hij hj hc, run_sizeOf_info w hi']
  rcases sl_of hr with ⟨rfl, rfl, rfl⟩ | ⟨rfl, a, cap, esz, vals, rfl, hs, hc, hm, hesz, hcell, hh⟩
  · simp at hj
    have hi0 : i = 0 := by omega
    have hj0 : j = 0 := by omega
    subst hi0; subst hj0
    exact ⟨_, hrun none 0 (by simp), by simpa using .nil⟩
  · refine ⟨_, hrun (some a) cap hc, ?_⟩
    have hlen : ((l.take j.toNat).drop i.toNat).length = j.toNat - i.toNat := by rw [List.length_drop, List.length_take]; omega
    rw [← hlen]
    by_cases hne : (l.take j.toNat).drop i.toNat = []
    · rw [hne]
      have hfl0 : ∀ (k : Nat) (x : Tr), (flat ([] : List Tr))[k]? = some x → False := by intro k x h; simp [flat] at h
      split
      · exact .sl (esz := 0) (vals := vals) (fun h => absurd rfl h) (by simp) (by omega) (by simp) (fun k x h => (hfl0 k x h).elim) (fun k x h => (hfl0 k x h).elim)
      · exact .sl (esz := 0) (vals := vals) (fun h => absurd rfl h) (by simp) (by omega) (by simp) (fun k x h => (hfl0 k x h).elim) (fun k x h => (hfl0 k x h).elim)
    · have hpos : 0 < ((l.take j.toNat).drop i.toNat).length := by
        cases hx : (l.take j.toNat).drop i.toNat with
        | nil => exact absurd hx hne
        | cons _ _ => simp
      rw [hlen] at hpos
      have hl0 : 0 < l.length := by omega
      have hez : esz = P.cellsOf e := by
        rw [flat_length l esz hesz] at hfl
        exact Nat.eq_of_mul_eq_mul_left hl0 hfl
      rw [if_neg (by omega)]
      have hf : flat ((l.take j.toNat).drop i.toNat) = ((flat l).take (j.toNat * esz)).drop (i.toNat * esz) := by
        rw [flat_drop _ esz (fun x hx => hesz x (List.mem_of_mem_take hx)) _ (by rw [List.length_take]; omega), flat_take _ esz hesz _ (by omega)]
      have hget : ∀ (k : Nat) (x : Tr), (flat ((l.take j.toNat).drop i.toNat))[k]? = some x → (flat l)[i.toNat * esz + k]? = some x := by
        intro k x hk
        rw [hf, List.getElem?_drop, List.getElem?_take] at hk
        split at hk
        · exact hk
        · cases hk
      refine .sl (esz := esz) (vals := fun k => vals (i.toNat * esz + k)) (fun hne' => add_spot a (hs (fun e0 => hne' (by rw [hf, e0]; simp))) _) (by omega) (by omega) (fun x hx => hesz x (List.mem_of_mem_take (List.mem_of_mem_drop hx))) (fun k x hk => ?_) (fun k x hk => hh _ x (hget k x hk))
      have := hcell _ x (hget k x hk)
      have hs1 : a.spot = none := hs (fun e0 => by have := hget k x hk; rw [e0] at this; simp at this)
      rw [← hez, add_add a hs1, block_add]
      exact this

theorem reach_ex (hr : HR A h μ w) {L : Nat → Prop} : ∀ (k : Nat) (p : PV) (v : Value), VR h μ w L p v → ∀ id ∈ reach h k p, (hget h id).isSome := by
  intro k
  induction k generalizing L with
  | zero => intro p v _ id hid; simp [reach] at hid
  | succ k ih =>
    intro p v hv id hid
    have lists : ∀ (l : List PV) (vs : Array Value), (∀ (i : Nat) p, l[i]? = some p → VR h μ w L p (vs.getD i Go.undef)) → id ∈ l.flatMap (reach h k) → (hget h id).isSome := by
      intro l vs hvs hm
      obtain ⟨p, hp, hid'⟩ := List.mem_flatMap.1 hm
      obtain ⟨i, hi, rfl⟩ := List.mem_iff_getElem.1 hp
      exact ih _ _ (hvs i _ (List.getElem?_eq_getElem hi)) id hid'
    cases hv with
    | t _ => simp [reach] at hid
    | ro => simp [reach] at hid
    | ad => simp [reach] at hid
    | mp => simp [reach] at hid
    | it => simp [reach] at hid
    | skip => simp [reach] at hid
    | undef => simp [reach] at hid
    | agg hl hvs => exact lists _ _ hvs (by simpa [reach] using hid)
    | tup hl hvs => exact lists _ _ hvs (by simpa [reach] using hid)
    | fn hl hvs => exact lists _ _ hvs (by simpa [reach] using hid)
    | @rf id' n v o ho hz hn h1 hv' =>
      simp only [reach, ho, List.mem_cons, List.mem_flatMap] at hid
      rcases hid with rfl | ⟨p, hp, hid'⟩
      · simp [ho]
      · obtain ⟨cur, cap, _, _, _, _, _, _, _, hcells⟩ := hr.obj id' o ho hz
        obtain ⟨i, hi, rfl⟩ := List.mem_iff_getElem.1 hp
        exact ih _ _ (hcells i _ (List.getElem?_eq_getElem hi)).1 id hid'

theorem toTr_rf (h : Hp) (k : Nat) (id : Id) (n : Nat) : toTr h (k + 1) (.rf id n) = match hget h id with
    | some o => if o.len = n then (match mapO (toTr h k) o.cs with | some ts => some (.sl true (elems o.ag o.esz o.len ts)) | none => none) else none
    | none => none := rfl

theorem LL_frz (ids : List Id) {b : Nat} (hb : LL A (frz h ids) μ b) : LL A h μ b := by
  rcases hb with hA | ⟨i, oi, hi, hl, hμ⟩
  · exact .inl hA
  · rw [hget_frz] at hi
    cases hh : hget h i with
    | none => simp [hh] at hi
    | some o => simp [hh] at hi; subst hi; simp at hl; exact .inr ⟨i, o, hh, hl.1, hμ⟩

/-- a snapshot, what it leads to frozen -/
theorem snap_frz (hr : HR A h μ w) {ids : List Id} {k : Nat} {p : PV} {v : Value} {x : Tr} (hv : VR h μ w (LL A h μ) p v) (ht : toTr h k p = some x) (hsub : ∀ id ∈ reach h k p, id ∈ ids) : Reads w (LL A (frz h ids) μ) x v :=
  toTr_reads hr k p v x hv ht (fun _ hb => LL_frz ids hb) (fun _ hb id hid => frz_out hr hb (hsub id hid) (reach_ex hr k p v hv id hid))

theorem bnd_of {sl : Sl} {a : Act} (hs : ∀ t, VR h μ w (LL A h μ) (sl t) (a.tmps.getD t undef)) {lo : Option Operand} {d i : Int} (hl : (lo.map (ev sl)).elim (some d) intOf = some i) : Bnd (lo.map a.eval) d i := by
  cases lo with
  | none => simp at hl; exact .inl ⟨rfl, hl.symm⟩
  | some x =>
    simp only [Option.map_some, Option.elim] at hl
    have hv := ev_VR hs x
    unfold intOf at hl
    split at hl <;> simp at hl
    subst hl
    rename_i k n he
    rw [he] at hv
    exact .inr ⟨k, by rw [Option.map_some, int_of hv.tree]⟩

theorem slice_good (hr : HR A h μ w) {sl : Sl} {a : Act} (hs : ∀ t, VR h μ w (LL A h μ) (sl t) (a.tmps.getD t undef)) {t : TypeId} {x : Operand} {lo hi : Option Operand} {v : PV} {h' : Hp}
    (hb : slicePV P t (ev sl x) (lo.map (ev sl)) (hi.map (ev sl)) h = some (v, h')) :
    ∃ v' w' μ', (Instr.sliceAt t (a.eval x) (lo.map a.eval) (hi.map a.eval) none).run P w = .ok v' w' ∧ HR A h' μ' w' ∧ Ext h μ w h' μ' w' ∧ VR h' μ' w' (LL A h' μ') v v' := by
  have hx := ev_VR hs x
  unfold slicePV at hb
  split at hb
  · rename_i nn l he
    rw [he] at hx
    split at hb <;> try (simp at hb; done)
    rename_i e hel
    split at hb <;> try (simp at hb; done)
    rename_i hfl
    split at hb <;> try (simp at hb; done)
    rename_i i j hlo hhi
    split at hb <;> simp at hb
    obtain ⟨rfl, rfl⟩ := hb
    rename_i hc
    obtain ⟨u', h1, h2⟩ := tree_slice hx.tree hel hfl (bnd_of hs hlo) (bnd_of hs hhi) hc.1 hc.2.1 hc.2.2
    exact ⟨u', w, μ, h1, hr, Ext.refl _ _ _, .t h2⟩
  · rename_i id n he
    rw [he] at hx
    split at hb <;> try (simp at hb; done)
    rename_i e o nn l hel ho htr
    split at hb <;> try (simp at hb; done)
    rename_i hc0
    obtain ⟨hlen, hesz⟩ := hc0
    split at hb <;> try (simp at hb; done)
    rename_i i j hlo hhi
    split at hb <;> simp at hb
    obtain ⟨rfl, rfl⟩ := hb
    rename_i hc
    obtain ⟨f1, f2⟩ := hr.frz (reach h dep (.rf id n))
    have hrd := snap_frz hr hx htr (fun _ h => h)
    -- the snapshot's shape
    have hshape : nn = true ∧ l.length = n ∧ (flat l).length = l.length * P.cellsOf e := by
      rcases sl_of hrd with ⟨rfl, rfl, hv⟩ | ⟨rfl, b, cap, esz, vals, hv, hs', hc', hm, hesz', _, _⟩
      · obtain ⟨cap, hv'⟩ := hx.rf_val (by simp [valid, ho, hlen])
        rw [hv] at hv'; cases hv'
      · obtain ⟨cap', hv'⟩ := hx.rf_val (by simp [valid, ho, hlen])
        rw [hv] at hv'
        have hln : l.length = n := by cases hv'; rfl
        refine ⟨rfl, hln, ?_⟩
        rw [show dep = 5 + 1 from rfl, toTr_rf] at htr
        simp only [ho, hlen, if_true] at htr
        split at htr
        · rename_i ts hm'
          simp at htr
          obtain ⟨cur, cap, hblk, hep, hag, hcl, hcs, hle, hmax, hcell⟩ := hr.obj id o ho (by cases hx with | rf ho' hz _ _ _ => rw [ho] at ho'; cases ho'; exact hz)
          rw [flat_length l esz hesz']
          by_cases hl0 : l.length = 0
          · simp [hl0]
          · congr 1
            obtain ⟨x0, hmem⟩ : ∃ y, y ∈ l := by
              cases hll : l with
              | nil => rw [hll] at hl0; exact absurd rfl hl0
              | cons y r => exact ⟨y, by simp⟩
            rw [← hesz' _ hmem, ← hesz]
            have hlts : ts.length = o.len * o.esz := by rw [(mapO_get hm').1, hcl]
            have hlts' : ts.length = n * o.esz := by rw [hlts, hlen]
            cases hagc : o.ag with
            | true =>
              rw [hagc] at htr
              have := (chunk_spec o.esz n ts hlts').2.2
              exact this x0 (by rw [← htr] at hmem; simpa [elems] using hmem)
            | false =>
              rw [hagc] at htr
              have h1 := hag hagc
              simp only [elems, Bool.false_eq_true, if_false] at htr
              subst htr
              obtain ⟨k, hk, rfl⟩ := List.mem_iff_getElem.1 hmem
              obtain ⟨p, hp, hpx⟩ := mapO_get' hm' k _ (List.getElem?_eq_getElem hk)
              have hp0 := hcell k p hp
              have hrr := toTr_reads hr (L' := fun _ => False) _ _ _ _ hp0.1 hpx (fun _ h => h.elim) (fun _ h => h.elim)
              rw [hrr.one hp0.2, h1]; rfl
        · cases htr
    obtain ⟨rfl, hln, hfl⟩ := hshape
    rw [← hln] at hhi hc
    obtain ⟨u', h1, h2⟩ := tree_slice hrd hel hfl (bnd_of hs hlo) (bnd_of hs hhi) hc.1 hc.2.1 hc.2.2
    exact ⟨u', w, μ, h1, f1, f2, .t h2⟩
  · rename_i s he
    rw [he] at hx
    split at hb <;> try (simp at hb; done)
    rename_i hst
    split at hb <;> try (simp at hb; done)
    rename_i i j hlo hhi
    split at hb <;> simp at hb
    obtain ⟨rfl, rfl⟩ := hb
    rename_i hc
    have hu := str_under hst
    have hv := str_of hx.tree
    refine ⟨.string (s.extract i.toNat j.toNat), w, μ, ?_, hr, Ext.refl _ _ _, .t (.str _)⟩
    rw [hv]
    simp [Instr.sliceAt, run_underlying hu, Instr.slice, run_sliceBounds (P := P) (w := w) false (bnd_of hs hlo) (bnd_of hs hhi) hc.1 hc.2.1 hc.2.2 (Nat.le_refl _)]
  · cases hb
end
end Go.Vm
