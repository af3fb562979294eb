/- The abstract machine's relation to the model's world, and what keeps it. -/
import Derived.Test.YtajgclnahfmfmaaVm1
namespace Go.Vm
open Go

theorem Reads.frame {w w' : World} {L L' : Nat → Prop} (hc : ∀ (a : Addr) v, ¬ L a.block → w.cell? a = some v → ¬ L' a.block ∧ w'.cell? a = some v) {x : Tr} {v : Value}
    (h : Reads w L x v) : Reads w' L' x v := by
  induction h with
  | int k n => exact .int k n
  | bool b => exact .bool b
  | str s => exact .str s
  | agg hl _ ih => exact .agg hl ih
  | tup hl _ ih => exact .tup hl ih
  | nil => exact .nil
  | nilp => exact .nilp
  | @ptr cs a vals hs hcell _ ih =>
    refine .ptr hs (fun k x hk => ?_) ih
    obtain ⟨h1, h2, h3⟩ := hcell k x hk
    have hb : (a.add k).block = a.block := by unfold Addr.add; split <;> rfl
    have := hc (a.add k) (vals k) (by rw [hb]; exact h1) h2
    rw [hb] at this
    exact ⟨this.1, this.2, h3⟩
  | fn hl _ ih => exact .fn hl ih
  | @sl l a cap esz vals hs hcap hm he hcell _ ih =>
    refine .sl hs hcap hm he (fun k x hk => ?_) ih
    obtain ⟨h1, h2, h3⟩ := hcell k x hk
    have hb : (a.add k).block = a.block := by unfold Addr.add; split <;> rfl
    have := hc (a.add k) (vals k) (by rw [hb]; exact h1) h2
    rw [hb] at this
    exact ⟨this.1, this.2, h3⟩

theorem Reads.mono {w : World} {L L' : Nat → Prop} (hL : ∀ b, L' b → L b) {x : Tr} {v : Value} (h : Reads w L x v) : Reads w L' x v :=
  h.frame fun _ _ h1 h2 => ⟨fun h => h1 (hL _ h), h2⟩

theorem Reads.scalar {w w' : World} {L L' : Nat → Prop} {x : Tr} {v : Value} (h : Reads w L x v) (hs : x.scalar = true) : Reads w' L' x v := by
  have key : ∀ l : List Tr, Tr.scalar.scalars l = true → ∀ (i : Nat) (x : Tr), l[i]? = some x → ∀ v, Reads w L x v → Reads w' L' x v := by
    intro l
    induction l with
    | nil => intro _ i x hi; simp at hi
    | cons y r ih =>
      intro hl i x hi v hv
      have hy : (∃ k n, y = .int k n) ∨ (∃ b, y = .bool b) ∨ (∃ s, y = .str s) := by
        cases y <;> simp [Tr.scalar.scalars] at hl ⊢
      have hr : Tr.scalar.scalars r = true := by
        rcases hy with ⟨_, _, rfl⟩ | ⟨_, rfl⟩ | ⟨_, rfl⟩ <;> simpa [Tr.scalar.scalars] using hl
      cases i with
      | zero =>
        simp at hi; subst hi
        rcases hy with ⟨_, _, rfl⟩ | ⟨_, rfl⟩ | ⟨_, rfl⟩ <;> cases hv
        · exact .int _ _
        · exact .bool _
        · exact .str _
      | succ i => exact ih hr i x (by simpa using hi) v hv
  cases h with
  | int k n => exact .int k n
  | bool b => exact .bool b
  | str s => exact .str s
  | tup hl h => exact .tup hl fun i x hi => key _ hs i x hi _ (h i x hi)
  | _ => simp [Tr.scalar] at hs

theorem Ext.refl (h : Hp) (μ : Id → Nat) (w : World) : Ext h μ w h μ w :=
  ⟨rfl, rfl, rfl, Nat.le_refl _, fun _ _ _ => rfl, fun _ cur et fz hb => ⟨cur, et, fz, hb, rfl⟩, fun _ o ho => ⟨o, ho, Nat.le_refl _, rfl, fun _ => rfl, id, rfl, fun _ => rfl⟩, fun _ => .inl⟩

theorem Ext.trans {h : Hp} {μ : Id → Nat} {w : World} {h' : Hp} {μ' : Id → Nat} {w' : World} {h'' : Hp} {μ'' : Id → Nat} {w'' : World}
    (e : Ext h μ w h' μ' w') (f : Ext h' μ' w' h'' μ'' w'') : Ext h μ w h'' μ'' w'' where
  os := f.os.trans e.os
  tape := f.tape.trans e.tape
  output := f.output.trans e.output
  size := Nat.le_trans e.size f.size
  old b hb hl := by
    rw [f.old b (Nat.lt_of_lt_of_le hb e.size) (fun hl' => (e.lv b hl').elim hl (fun h => absurd hb (by omega)))]
    exact e.old b hb hl
  bsz b cur et fz hb := by
    obtain ⟨c1, e1, f1, h1, s1⟩ := e.bsz b cur et fz hb
    obtain ⟨c2, e2, f2, h2, s2⟩ := f.bsz b c1 e1 f1 h1
    exact ⟨c2, e2, f2, h2, s2.trans s1⟩
  obj id o ho := by
    obtain ⟨o1, h1, l1, s1, m1, v1, a1, z1⟩ := e.obj id o ho
    obtain ⟨o2, h2, l2, s2, m2, v2, a2, z2⟩ := f.obj id o1 h1
    refine ⟨o2, h2, Nat.le_trans l1 l2, s2.trans s1, fun hl => ?_, fun hv => v1 (v2 hv), a2.trans a1, fun hz => (z2 (s1.trans hz)).trans (z1 hz)⟩
    exact (m2 (by omega)).trans (m1 (by omega))
  lv b hb := by
    rcases f.lv b hb with h | h
    · exact e.lv b h
    · exact .inr (Nat.le_trans e.size h)

theorem block_add (a : Addr) (k : Nat) : (a.add k).block = a.block := by unfold Addr.add; split <;> rfl

theorem cell_keep {w w' : World} {a : Addr} (h : w'.heap[a.block]? = w.heap[a.block]?) : w'.cell? a = w.cell? a := by simp [World.cell?, h]

section
variable {A : Nat → Prop} {h h' : Hp} {μ μ' : Id → Nat} {w w' : World}

/-- what a cell outside of the live blocks becomes -/
theorem Ext.cell (e : Ext h μ w h' μ' w') (a : Addr) (v : Value) (hl : ¬ LL A h μ a.block) (hc : w.cell? a = some v) : ¬ LL A h' μ' a.block ∧ w'.cell? a = some v := by
  have hlt := block_lt_of_cell hc
  refine ⟨fun hl' => ?_, ?_⟩
  · rcases hl' with ha | hv
    · exact hl (.inl ha)
    · rcases e.lv _ hv with h1 | h1
      · exact hl (.inr h1)
      · omega
  · rw [cell_keep (e.old _ hlt (fun h1 => hl (.inr h1)))]; exact hc

theorem VR.ext (e : Ext h μ w h' μ' w') {p : PV} {v : Value} (hv : VR h μ w (LL A h μ) p v) : VR h' μ' w' (LL A h' μ') p v := by
  induction hv with
  | t hr => exact .t (hr.frame (e.cell))
  | @ro cs a vals hs hcell hr =>
    refine .ro hs (fun k x hk => ?_) (fun k x hk => (hr k x hk).frame e.cell)
    obtain ⟨h1, h2, h3⟩ := hcell k x hk
    have := e.cell (A := A) (a.add k) (vals k) (by rw [block_add]; exact h1) h2
    rw [block_add] at this
    exact ⟨this.1, this.2, h3⟩
  | @rf id n v o ho hz hn h1 hv =>
    obtain ⟨o', ho', hl, hs, hm, _⟩ := e.obj id o ho
    refine .rf ho' (by rw [hs]; exact hz) (by omega) h1 (fun he => ?_)
    obtain ⟨cap, cur, et, fz, hv, hb, hsz⟩ := hv (by omega)
    obtain ⟨c1, e1, f1, hb1, hs1⟩ := e.bsz _ cur et fz hb
    rw [hm (by omega)]
    exact ⟨cap, c1, e1, f1, hv, hb1, by rw [hs1, hsz, hs]⟩
  | @ad id n off v o ho hz hn h1 hv =>
    obtain ⟨o', ho', hl, hs, hm, _⟩ := e.obj id o ho
    refine .ad ho' (by rw [hs]; exact hz) (by omega) h1 (fun he => ?_)
    rw [hm (by omega)]
    exact hv (by omega)
  | @mp id o ho hz hg =>
    obtain ⟨o', ho', hl, hs, hm, _, ha, hz'⟩ := e.obj id o ho
    rw [← hm (hz' hz)]
    exact .mp ho' (hs.trans hz) (ha.trans hg)
  | @it id o ho hz hg =>
    obtain ⟨o', ho', hl, hs, hm, _, ha, hz'⟩ := e.obj id o ho
    rw [← hm (hz' hz)]
    exact .it ho' (hs.trans hz) (ha.trans hg)
  | agg hl _ ih => exact .agg hl ih
  | tup hl _ ih => exact .tup hl ih
  | fn hl _ ih => exact .fn hl ih
  | skip => exact .skip
  | undef => exact .undef
end
end Go.Vm
