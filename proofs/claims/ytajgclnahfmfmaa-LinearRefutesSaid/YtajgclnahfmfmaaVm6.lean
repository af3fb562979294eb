/- The abstract machine: the operations that make memory; and each operation that is no call, in one. -/
import Derived.Test.YtajgclnahfmfmaaVm5
namespace Go.Vm
open Go

section
variable {P : Program} {A : Nat → Prop} {h : Hp} {μ : Id → Nat} {w : World}

/-- cells of the machine and of the model, one by one -/
def Cells (h : Hp) (μ : Id → Nat) (w : World) (L : Nat → Prop) (cs : List PV) (vs : Array Value) : Prop :=
  cs.length ≤ vs.size ∧ ∀ (k : Nat) p, cs[k]? = some p → VR h μ w L p (vs.getD k Go.undef) ∧ (vs.getD k Go.undef).oneCell' = true

theorem zero_cells {t : TypeId} {z : List Tr} (hz : zeroB P t = some z) (L : Nat → Prop) : ∃ i v, P.info? t = some i ∧ i.zero = some v ∧ v.cells.size = z.length ∧ Cells h μ w L (z.map .t) v.cells := by
  unfold zeroB at hz
  cases hi : P.info? t with
  | none => simp [hi] at hz
  | some i =>
    cases hv : i.zero with
    | none => simp [hi, hv] at hz
    | some v =>
      simp [hi, hv] at hz
      obtain ⟨h1, h2⟩ := cvs_get hz
      refine ⟨i, v, rfl, hv, by simpa using h1.symm, by simp [h1], fun k p hk => ?_⟩
      rw [List.getElem?_map] at hk
      cases hx : z[k]? with
      | none => simp [hx] at hk
      | some x =>
        simp [hx] at hk; subst hk
        obtain ⟨u, hu, hc⟩ := h2 k x hx
        have : v.cells.getD k Go.undef = u := by
          have hk : k < v.cells.size := by
            have := (List.getElem?_eq_some_iff.1 hu).1
            simpa using this
          simp at hu
          simp [Array.getD, hk]
          rw [Array.getElem?_eq_getElem hk] at hu
          exact Option.some.inj hu
        rw [this]
        exact ⟨.t (cvV_reads hc), cvV_one hc⟩

theorem fold_set (vs : List Value) (off : Nat) : ∀ (j : Nat) (cells : Array Value), off + j + vs.length ≤ cells.size →
    let r := (vs.zipIdx j).foldl (fun cs (c, j) => cs.setIfInBounds (off + j) c) cells
    r.size = cells.size ∧ ∀ k, r[k]? = if off + j ≤ k ∧ k < off + j + vs.length then vs[k - (off + j)]? else cells[k]? := by
  induction vs with
  | nil => intro j cells _; refine ⟨rfl, fun k => ?_⟩; simp; omega
  | cons v r ih =>
    intro j cells hl
    simp only [List.length_cons] at hl
    obtain ⟨h1, h2⟩ := ih (j + 1) (cells.setIfInBounds (off + j) v) (by simp; omega)
    refine ⟨by simpa using h1, fun k => ?_⟩
    have := h2 k
    simp only [List.zipIdx_cons, List.foldl_cons] at this ⊢
    rw [this]
    simp only [List.length_cons]
    by_cases hk : k = off + j
    · subst hk
      rw [if_neg (by omega), if_pos (by omega)]
      have : off + j < cells.size := by omega
      simp [this]
    · by_cases hin : off + (j + 1) ≤ k ∧ k < off + (j + 1) + r.length
      · rw [if_pos hin, if_pos (by omega)]
        rw [show k - (off + j) = (k - (off + (j + 1))) + 1 by omega]
        simp
      · rw [if_neg hin, if_neg (by omega)]
        rw [Array.getElem?_setIfInBounds_ne (by omega)]

theorem fill_good {L : Nat → Prop} {place : Nat → Option (Nat × Nat)} : ∀ (parts : List (Nat × PV)) (vparts : List (Nat × Value)) (cs : List PV) (vs : Array Value) (r : List PV),
    parts.length = vparts.length → (∀ (i : Nat) x y, parts[i]? = some x → vparts[i]? = some y → x.1 = y.1 ∧ VR h μ w L x.2 y.2) → cs.length = vs.size → Cells h μ w L cs vs → fillPV place cs parts = some r →
    ∃ r', Instr.fill place vs vparts = some r' ∧ r.length = r'.size ∧ Cells h μ w L r r' := by
  intro parts
  induction parts with
  | nil =>
    intro vparts cs vs r hl _ hsz hc hf
    have : vparts = [] := List.eq_nil_of_length_eq_zero (by simpa using hl.symm)
    subst this
    simp [fillPV] at hf; subst hf
    exact ⟨vs, rfl, hsz, hc⟩
  | cons x parts ih =>
    intro vparts cs vs r hl hp hsz hc hf
    cases vparts with
    | nil => simp at hl
    | cons y vparts =>
      obtain ⟨i, p⟩ := x
      obtain ⟨i', v⟩ := y
      obtain ⟨h1, h2⟩ := hp 0 _ _ rfl rfl
      simp only at h1 h2; subst h1
      simp only [fillPV] at hf
      cases hpl : place i with
      | none => simp [hpl] at hf
      | some os =>
        obtain ⟨off, size⟩ := os
        simp only [hpl] at hf
        split at hf <;> try (simp at hf; done)
        rename_i hcond
        obtain ⟨hs1, hs2, hs3⟩ := hcond
        obtain ⟨hcl, hcell⟩ := h2.cells hs3
        have hfold := fold_set v.cells.toList off 0 vs (by simp; omega)
        simp only [Nat.add_zero] at hfold
        obtain ⟨hr1, hr2⟩ := hfold
        have hcells : Cells h μ w L (splice cs off p.cells) (v.cells.zipIdx.foldl (fun cs (c, j) => cs.setIfInBounds (off + j) c) vs) := by
          have hsz' : (v.cells.zipIdx.foldl (fun cs (c, j) => cs.setIfInBounds (off + j) c) vs).size = vs.size := by rw [← Array.foldl_toList]; simpa using hr1
          have hget' : ∀ k : Nat, (v.cells.zipIdx.foldl (fun cs (c, j) => cs.setIfInBounds (off + j) c) vs)[k]? = if off ≤ k ∧ k < off + v.cells.toList.length then v.cells.toList[k - off]? else vs[k]? := by
            intro k; rw [← Array.foldl_toList]; simpa using hr2 k
          refine ⟨by rw [splice_length _ _ _ hs2, hsz', hsz]; exact Nat.le_refl _, fun k q hk => ?_⟩
          rw [splice_get _ _ _ hs2] at hk
          have hD : ∀ u, (v.cells.zipIdx.foldl (fun cs (c, j) => cs.setIfInBounds (off + j) c) vs)[k]? = some u → (v.cells.zipIdx.foldl (fun cs (c, j) => cs.setIfInBounds (off + j) c) vs).getD k Go.undef = u := by
            intro u hu
            have := (Array.getElem?_eq_some_iff.1 hu).1
            simp only [Array.getD, this, dite_true]
            rw [Array.getElem?_eq_getElem this] at hu
            exact Option.some.inj hu
          have hsome : ∀ (a : Array Value) (k : Nat), k < a.size → a[k]? = some (a.getD k Go.undef) := by
            intro a k hk; simp [Array.getD, hk]
          split at hk
          · rename_i hlt
            have hkl := (List.getElem?_eq_some_iff.1 hk).1
            rw [hD (vs.getD k Go.undef) (by rw [hget' k, if_neg (by omega)]; exact hsome _ _ (by omega))]
            exact hc.2 k q hk
          · split at hk
            · rename_i h3 h4
              rw [hD (v.cells.getD (k - off) Go.undef) (by
                have hkk : k - off < v.cells.size := by omega
                rw [hget' k, if_pos ⟨by omega, by simp; omega⟩, Array.getElem?_toList]; exact hsome _ _ hkk)]
              exact hcell _ q hk
            · rename_i h3 h4
              have hkl := (List.getElem?_eq_some_iff.1 hk).1
              rw [hD (vs.getD k Go.undef) (by rw [hget' k, if_neg (by simp; omega)]; exact hsome _ _ (by omega))]
              exact hc.2 k q hk
        obtain ⟨r', hr', hrl, hrc⟩ := ih vparts (splice cs off p.cells) (v.cells.zipIdx.foldl (fun cs (c, j) => cs.setIfInBounds (off + j) c) vs) r (by simpa using hl)
          (fun i x y hx hy => hp (i + 1) x y (by simpa using hx) (by simpa using hy))
          (by rw [splice_length _ _ _ hs2, hsz]; rw [← Array.foldl_toList]; simpa using hr1.symm) hcells hf
        refine ⟨r', ?_, hrl, hrc⟩
        simp only [Instr.fill, hpl]
        rw [if_neg (by rw [Bool.or_eq_true, not_or]; simp; omega)]
        exact hr'

theorem build_good {t : TypeId} {parts : List (Nat × PV)} {vparts : Array (Nat × Value)} {v : PV} (hl : parts.length = vparts.toList.length)
    (hp : ∀ (i : Nat) x y, parts[i]? = some x → vparts.toList[i]? = some y → x.1 = y.1 ∧ VR h μ w (LL A h μ) x.2 y.2) (hb : buildPV P t parts = some v) :
    ∃ v', (Instr.build t vparts).run P w = .ok v' w ∧ VR h μ w (LL A h μ) v v' := by
  unfold buildPV at hb
  split at hb <;> try (simp at hb; done)
  rename_i pl z hpl hz
  split at hb <;> simp at hb
  subst hb
  rename_i cs hcs
  obtain ⟨i, zv, hi, hzv, hzs, hzc⟩ := zero_cells (h := h) (μ := μ) (w := w) hz (LL A h μ)
  obtain ⟨r', hr', hrl, hrc⟩ := fill_good parts vparts.toList (z.map .t) zv.cells cs hl hp (by simp [hzs]) hzc hcs
  refine ⟨.agg r', run_build w t vparts r' ?_, VR.mkAgg hrl fun i x hx => (hrc.2 i x hx).1⟩
  unfold placesB at hpl
  split at hpl <;> try (simp at hpl; done)
  rename_i fs hu
  unfold Program.built
  simp only [hi, hu, hzv, hpl]
  simpa using hr'

/-! ## new memory -/
theorem fresh_out (hr : HR A h μ w) {b : Nat} (hb : w.heap.size ≤ b) : ¬ LL A h μ b := by
  rintro (hA | ⟨id, o, ho, _, hμ⟩)
  · have := hr.old b hA; omega
  · have := hr.lt ho; omega

theorem newVar_good (hr : HR A h μ w) {mu : Nat → Bool} {dst : Option Tmp} {t : TypeId} {cs : List PV} {vs : Array Value} {v : PV} {h' : Hp} (hsz : cs.length = vs.size) (hc : Cells h μ w (LL A h μ) cs vs)
    (hn : newVarPV P mu dst t cs h = some (v, h')) : ∃ μ', HR A h' μ' (w.alloc (.cells vs t)) ∧ Ext h μ w h' μ' (w.alloc (.cells vs t)) ∧ VR h' μ' (w.alloc (.cells vs t)) (LL A h' μ') v (.pointer (some ⟨w.heap.size, 0, none⟩)) := by
  unfold newVarPV at hn
  split at hn <;> try (simp at hn; done)
  rename_i d ag hag
  split at hn <;> try (simp at hn; done)
  rename_i hcond
  obtain ⟨hl, hpos, hag1, hone⟩ := hcond
  split at hn
  · simp at hn
    obtain ⟨rfl, rfl⟩ := hn
    obtain ⟨h1, h2⟩ := HR.new (w' := w.alloc (.cells vs t)) hr d w.heap.size ⟨cs, P.cellsOf t, 1, t, ag, true⟩ vs 1 ⟨rfl, rfl, rfl⟩ (by simp) (fun k hk => heap_alloc_old w _ k hk) (Nat.le_refl _) (heap_alloc_new w _) hpos
      (fun e => hag1.resolve_left (by rw [show ag = false from e]; simp)) (by simpa using hl) (by simpa [hl] using hsz.symm) (Nat.le_refl _) (by decide) hc.2
    refine ⟨_, h1, h2, .ad (o := ⟨cs, P.cellsOf t, 1, t, ag, true⟩) (by rw [hget_hnew, if_pos rfl]) (by show P.cellsOf t ≠ 0; omega) (Nat.le_refl _) rfl fun _ => by rw [setμ_same]⟩
  · split at hn <;> simp at hn
    obtain ⟨rfl, rfl⟩ := hn
    rename_i ts hts
    have := trees_get hts; subst this
    obtain ⟨h1, h2⟩ := Ext.grow hr (w' := w.alloc (.cells vs t)) ((RowKit.Below.refl _ _).alloc (Nat.le_refl _) _)
    refine ⟨μ, h1, h2, .ro (vals := fun k => vs.getD k Go.undef) rfl (fun k x hk => ⟨fresh_out hr (Nat.le_refl _), ?_, ?_⟩) (fun k x hk => ?_)⟩
    · have hkl := (List.getElem?_eq_some_iff.1 hk).1
      have : k < vs.size := by rw [← hsz]; simpa using hkl
      have hnew := heap_alloc_new w (.cells vs t)
      rw [add_lit, Nat.zero_add, cell_of_row (w.alloc (.cells vs t)) w.heap.size k vs t (0, 0) hnew]
      simp [this, Array.getD]
    · exact (hc.2 k (.t x) (by rw [List.getElem?_map, hk]; rfl)).2
    · exact ((hc.2 k (.t x) (by rw [List.getElem?_map, hk]; rfl)).1.ext h2).tree

theorem newRow_good (hr : HR A h μ w) {w' : World} {mu : Nat → Bool} {dst : Option Tmp} {e : TypeId} {len cap g : Nat} {cs : List PV} {cur : Array Value} {v : PV} {h' : Hp}
    (hw : w'.os = w.os ∧ w'.tape = w.tape ∧ w'.output = w.output) (hsz : w.heap.size ≤ w'.heap.size) (hold : ∀ k : Nat, k < w.heap.size → w'.heap[k]? = w.heap[k]?) (hg : w.heap.size ≤ g)
    (hcur : w'.heap[g]? = some (.cells cur e (0, 0))) (hpos : 0 < P.cellsOf e) (hcs : cs.length = len * P.cellsOf e) (hcap : cur.size = cap * P.cellsOf e) (hle : len ≤ cap) (hmax : cap ≤ maxLen)
    (hc : ∀ (k : Nat) p, cs[k]? = some p → VR h μ w (LL A h μ) p (cur.getD k Go.undef) ∧ (cur.getD k Go.undef).oneCell' = true) (hn : newRowPV P mu dst e len cs h = some (v, h')) :
    ∃ μ', HR A h' μ' w' ∧ Ext h μ w h' μ' w' ∧ VR h' μ' w' (LL A h' μ') v (.slice (some ⟨g, 0, none⟩) len cap) := by
  unfold newRowPV at hn
  split at hn <;> try (simp at hn; done)
  rename_i d ag hag
  split at hn <;> try (simp at hn; done)
  rename_i hag1
  have hag1 : ag = false → P.cellsOf e = 1 := fun h => Decidable.byContradiction fun h2 => hag1 ⟨h, h2⟩
  split at hn
  · simp at hn
    obtain ⟨rfl, rfl⟩ := hn
    obtain ⟨h1, h2⟩ := HR.new hr d g ⟨cs, P.cellsOf e, len, e, ag, true⟩ cur cap hw hsz hold hg hcur hpos hag1 hcs hcap hle hmax hc
    refine ⟨_, h1, h2, .rf (o := ⟨cs, P.cellsOf e, len, e, ag, true⟩) (by rw [hget_hnew, if_pos rfl]) (by show P.cellsOf e ≠ 0; omega) (Nat.le_refl _) rfl fun _ => ⟨cap, cur, e, (0, 0), by rw [setμ_same], by rw [setμ_same]; exact hcur, hcap⟩⟩
  · split at hn <;> simp at hn
    obtain ⟨rfl, rfl⟩ := hn
    rename_i ts hts
    have := trees_get hts; subst this
    obtain ⟨h1, h2⟩ := Ext.grow hr (w' := w') ⟨hw.1, hw.2.1, hw.2.2, hsz, hold⟩
    have hrd : ∀ (k : Nat) x, ts[k]? = some x → Reads w' (LL A h μ) x (cur.getD k Go.undef) ∧ (cur.getD k Go.undef).oneCell' = true := fun k x hk => by
      have := hc k (.t x) (by rw [List.getElem?_map, hk]; rfl)
      exact ⟨(this.1.ext h2).tree, this.2⟩
    have hone : ∀ x ∈ ts, x.cells = [x] := by
      intro x hx
      obtain ⟨i, hi, rfl⟩ := List.mem_iff_getElem.1 hx
      obtain ⟨a, b⟩ := hrd i ts[i] (List.getElem?_eq_getElem hi)
      exact a.one b
    have hlts : ts.length = len * P.cellsOf e := by simpa using hcs
    obtain ⟨hf, hfl, hfe⟩ := elems_spec hlts hag1 hone
    refine ⟨μ, h1, h2, ?_⟩
    have := @Reads.sl w' (LL A h μ) (elems ag (P.cellsOf e) len ts) ⟨g, 0, none⟩ cap (P.cellsOf e) (fun k => cur.getD k Go.undef) (fun _ => rfl) (by rw [hfl]; exact hle) hmax hfe
      (fun i x hx => by
        rw [hf] at hx
        refine ⟨fresh_out hr hg, ?_, (hrd i x hx).2⟩
        have hi : i < cur.size := by
          have : i < ts.length := (List.getElem?_eq_some_iff.1 hx).1
          have : len * P.cellsOf e ≤ cap * P.cellsOf e := Nat.mul_le_mul_right _ hle
          omega
        rw [add_lit]
        simp [World.cell?, hcur, hi, Array.getD])
      (fun i x hx => by rw [hf] at hx; exact (hrd i x hx).1)
    rw [hfl] at this
    exact .t this

theorem zrow_get (z : List Tr) : ∀ (n : Nat), (zrow z n).length = n * z.length ∧ ∀ k, k < n * z.length → (zrow z n)[k]? = z[k % z.length]?
  | 0 => ⟨by simp [zrow], fun k hk => by simp at hk⟩
  | n + 1 => by
    obtain ⟨h1, h2⟩ := zrow_get z n
    refine ⟨by simp [zrow, h1, Nat.succ_mul]; omega, fun k hk => ?_⟩
    simp only [zrow]
    by_cases hk1 : k < z.length
    · rw [List.getElem?_append_left hk1, Nat.mod_eq_of_lt hk1]
    · rw [List.getElem?_append_right (by omega), h2 _ (by rw [Nat.succ_mul] at hk; omega)]
      have e : k = (k - z.length) + z.length := by omega
      have e2 : k % z.length = (k - z.length) % z.length := by
        conv => lhs; rw [e, Nat.add_mod_right]
      rw [e2]

theorem zrow_cells {L : Nat → Prop} {z : List Tr} {zv : Array Value} (hz : zv.size = z.length) (hc : Cells h μ w L (z.map .t) zv) (n : Nat) :
    Cells h μ w L ((zrow z n).map .t) ((Array.range (n * z.length)).map (zv[· % zv.size]!)) := by
  obtain ⟨h1, h2⟩ := zrow_get z n
  refine ⟨by simp [h1], fun k p hk => ?_⟩
  rw [List.getElem?_map] at hk
  have hkl : k < n * z.length := by
    have hh := hk
    cases hx : (zrow z n)[k]? with
    | none => simp [hx] at hh
    | some x => rw [← h1]; exact (List.getElem?_eq_some_iff.1 hx).1
  rw [h2 k hkl] at hk
  have hzp : 0 < z.length := by
    rcases Nat.eq_zero_or_pos z.length with h0 | h0
    · rw [h0] at hkl; omega
    · exact h0
  have hm : k % z.length < z.length := Nat.mod_lt _ hzp
  have := hc.2 (k % z.length) p (by rw [List.getElem?_map]; exact hk)
  have e : ((Array.range (n * z.length)).map (zv[· % zv.size]!)).getD k Go.undef = zv.getD (k % z.length) Go.undef := by
    simp [Array.getD, hkl, hz, hm]
  rw [e]; exact this
end
end Go.Vm
