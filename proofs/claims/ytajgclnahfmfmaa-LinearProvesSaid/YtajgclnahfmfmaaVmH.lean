/- The abstract machine and the readings of a claim: what is handed over reads as a typed tree. -/
import Derived.Test.YtajgclnahfmfmaaVmG
import Derived.DataReads
import GoSem.ClaimChange
set_option linter.unusedSimpArgs false
namespace Go.Vm
open Go

section
variable {P : Program} {w : World}

/-- cells of a type -/
inductive Typed (P : Program) : TypeId → List Tr → Prop where
  | bool {t : TypeId} {b : Bool} (h : P.underlying t = some .bool) : Typed P t [.bool b]
  | int {t : TypeId} {k : IntKind} {n : Int} (h : P.underlying t = some (.int k)) (hw : (Lit.int k n).wf = true) : Typed P t [.int k n]
  | str {t : TypeId} {s : ByteArray} (h : P.underlying t = some .string) (hs : s.size ≤ maxLen) : Typed P t [.str s]
  | snil {t e : TypeId} (h : P.underlying t = some (.slice e)) : Typed P t [.sl false []]
  | sl {t e : TypeId} {l : List Tr} (h : P.underlying t = some (.slice e)) (hel : ∀ x ∈ l, Typed P e x.cells) (hag : ∀ x ∈ l, aggB P e = some true → x = .agg x.cells) (hln : ∀ x ∈ l, x.cells.length = P.cellsOf e) (hna : ∀ x ∈ l, aggB P e = some false → x.cells = [x]) : Typed P t [.sl true l]
  | struct {t : TypeId} {fs : Array Field} {cs : List Tr} (h : P.underlying t = some (.struct fs)) (hl : cs.length = P.cellsOf t) (hf : ∀ f ∈ fs.toList, Typed P f.type ((cs.drop f.offset).take (P.cellsOf f.type))) : Typed P t cs

/-- a struct's fields, end to end -/
def laid (P : Program) : Nat → List Field → Option Nat
  | o, [] => some o
  | o, f :: r => if f.offset = o then laid P (o + P.cellsOf f.type) r else none
/-- a type made of bools, integers, strings, slices and structs -/
def plainT (P : Program) : Nat → TypeId → Bool
  | 0, _ => false
  | n + 1, t => match P.underlying t with
    | some .bool | some (.int _) | some .string => P.cellsOf t == 1 && aggB P t == some false
    | some (.slice e) => P.cellsOf t == 1 && aggB P t == some false && Nat.blt 0 (P.cellsOf e) && plainT P n e
    | some (.struct fs) => aggB P t == some true && laid P 0 fs.toList == some (P.cellsOf t) && fs.toList.all fun f => plainT P n f.type
    | _ => false

/-- cell by cell -/
def CellsR (w : World) (xs : List Tr) (cs : List Value) : Prop := xs.length = cs.length ∧ ∀ (k : Nat) x, xs[k]? = some x → Reads w (fun _ => False) x (cs.getD k undef) ∧ x.cells = [x] ∧ (cs.getD k undef).oneCell' = true

theorem CellsR.one {x : Tr} {v : Value} (hr : Reads w (fun _ => False) x v) (hx : x.cells = [x]) (hv : v.oneCell' = true) : CellsR w [x] [v] := by
  refine ⟨rfl, fun k y hk => ?_⟩
  cases k with
  | zero => simp at hk; subst hk; exact ⟨hr, hx, hv⟩
  | succ k => simp at hk

theorem flat_at {l : List Tr} {esz : Nat} (hpos : 0 < esz) (he : ∀ x ∈ l, x.cells.length = esz) {k : Nat} {x : Tr} (hk : (flat l)[k]? = some x) : ∃ y, l[k / esz]? = some y ∧ y.cells[k % esz]? = some x := by
  have hlt := (List.getElem?_eq_some_iff.1 hk).1
  rw [flat_length l esz he] at hlt
  have hi : k / esz < l.length := (Nat.div_lt_iff_lt_mul hpos).2 hlt
  refine ⟨l[k / esz], List.getElem?_eq_getElem hi, ?_⟩
  have hy := he _ (List.getElem_mem hi)
  have hj : k % esz < (l[k / esz]).cells.length := by rw [hy]; exact Nat.mod_lt _ hpos
  have := flat_get l esz he (k / esz) _ (List.getElem?_eq_getElem hi) (k % esz) _ (List.getElem?_eq_getElem hj)
  rw [Nat.mul_comm, Nat.div_add_mod] at this
  rw [List.getElem?_eq_getElem hj]
  rw [this] at hk; exact hk

theorem CellsR.part {xs : List Tr} {cs : List Value} (h : CellsR w xs cs) (o n : Nat) : CellsR w ((xs.drop o).take n) ((cs.drop o).take n) := by
  refine ⟨by simp [h.1], fun k x hk => ?_⟩
  rw [List.getElem?_take] at hk
  split at hk
  · rename_i hkn
    rw [List.getElem?_drop] at hk
    have := h.2 _ x hk
    have e : ((cs.drop o).take n).getD k undef = cs.getD (o + k) undef := by simp [List.getD, List.getElem?_take, hkn]
    rw [e]; exact this
  · cases hk

variable {H : Type} {enc : TypeId × Value → H} {base : Nat} {spare : Nat → Bool} {held : Bool}

/-- fields, end to end -/
theorem fields_typed {R : TypeId → List Value → Prop} (hR : ∀ t cs, R t cs → ∃ xs, Typed P t xs ∧ CellsR w xs cs) {cs : List Value} : ∀ (fs : List Field) (o n : Nat), laid P o fs = some n → o ≤ cs.length → n = cs.length →
    (∀ f ∈ fs, R f.type ((cs.drop f.offset).take (P.cellsOf f.type))) → ∃ zs, CellsR w zs (cs.drop o) ∧ ∀ f ∈ fs, o ≤ f.offset ∧ Typed P f.type ((zs.drop (f.offset - o)).take (P.cellsOf f.type))
  | [], o, n, hl, ho, hn, _ => by
    simp only [laid, Option.some.injEq] at hl
    refine ⟨[], ?_, by simp⟩
    subst hl
    rw [hn, List.drop_length]
    exact ⟨rfl, fun k x hk => by simp at hk⟩
  | f :: r, o, n, hl, ho, hn, hf => by
    unfold laid at hl
    split at hl
    · rename_i hoff
      have hmono : ∀ (fs : List Field) (o n : Nat), laid P o fs = some n → o ≤ n := by
        intro fs
        induction fs with
        | nil => intro o n h; simp [laid] at h; omega
        | cons g r ih =>
          intro o n h
          unfold laid at h
          split at h
          · have := ih _ _ h; omega
          · cases h
      have hle := hmono _ _ _ hl
      obtain ⟨xs, h1, h2⟩ := hR _ _ (hf f (by simp))
      obtain ⟨zs, h3, h4⟩ := fields_typed hR r (o + P.cellsOf f.type) n hl (by omega) hn (fun g hg => hf g (by simp [hg]))
      have hxl : xs.length = P.cellsOf f.type := by rw [h2.1]; simp; omega
      refine ⟨xs ++ zs, ⟨?_, ?_⟩, ?_⟩
      · rw [List.length_append, hxl, h3.1]; simp; omega
      · intro k x hk
        rw [List.getElem?_append] at hk
        split at hk
        · rename_i hlt
          have := h2.2 k x hk
          have e : ((cs.drop f.offset).take (P.cellsOf f.type)).getD k undef = (cs.drop o).getD k undef := by
            simp [List.getD, List.getElem?_take, hoff, show k < P.cellsOf f.type by omega]
          rw [e] at this; exact this
        · rename_i hge
          have := h3.2 _ x hk
          have e : (cs.drop (o + P.cellsOf f.type)).getD (k - xs.length) undef = (cs.drop o).getD k undef := by
            simp only [List.getD, List.getElem?_drop]; congr 2; omega
          rw [e] at this; exact this
      · intro g hg
        rcases List.mem_cons.1 hg with rfl | hg
        · refine ⟨by omega, ?_⟩
          rw [hoff, Nat.sub_self, List.drop_zero, List.take_left' hxl]
          exact h1
        · obtain ⟨g1, g2⟩ := h4 g hg
          refine ⟨by omega, ?_⟩
          have e : (xs ++ zs).drop (g.offset - o) = zs.drop (g.offset - (o + P.cellsOf f.type)) := by
            rw [List.drop_append, List.drop_of_length_le (by omega), List.nil_append]
            congr 1; omega
          rw [e]; exact g2
    · cases hl

theorem plain_ag {m : Nat} {e : TypeId} (h : plainT P m e = true) : aggB P e = some true ∨ (aggB P e = some false ∧ P.cellsOf e = 1) := by
  cases m with
  | zero => simp [plainT] at h
  | succ m =>
    unfold plainT at h
    split at h <;> simp_all
def mkEl (ag : Option Bool) (xs : List Tr) : Tr := match ag with | some true => .agg xs | _ => xs.headD default
theorem mkEl_cells {ag : Option Bool} {xs : List Tr} {cs : List Value} (h : CellsR w xs cs) (ha : ag = some true ∨ (ag = some false ∧ xs.length = 1)) : (mkEl ag xs).cells = xs := by
  rcases ha with rfl | ⟨rfl, hl⟩
  · rfl
  · obtain ⟨x, rfl⟩ := List.length_eq_one_iff.1 hl
    exact (h.2 0 x rfl).2.1

theorem trod_typed : ∀ (fuel m : Nat) (t : TypeId) (cs : List Value) (d : DataW H) (ps : List MemPlace), DataW.trod enc P w base spare held fuel t cs = some (d, ps) → plainT P m t = true → ∃ xs, Typed P t xs ∧ CellsR w xs cs := by
  intro fuel
  induction fuel with
  | zero => intro m t cs d ps h; simp [DataW.trod] at h
  | succ fuel ih =>
    intro m t cs d ps h hp
    cases m with
    | zero => simp [plainT] at hp
    | succ m =>
      unfold plainT at hp
      unfold DataW.trod at h
      split at hp
      · rename_i hu
        rw [hu] at h
        split at h <;> simp_all
        rename_i b
        exact ⟨[.bool b], .bool hu, .one (.bool b) rfl rfl⟩
      · rename_i k hu
        rw [hu] at h
        split at h <;> simp_all
        obtain ⟨⟨rfl, hw⟩, _⟩ := h
        exact ⟨_, .int hu hw, .one (.int _ _) rfl rfl⟩
      · rename_i hu
        rw [hu] at h
        split at h <;> simp_all
        rename_i b
        exact ⟨[.str b], .str hu h.1, .one (.str b) rfl rfl⟩
      · rename_i e hu
        rw [hu] at h
        simp only [Bool.and_eq_true, beq_iff_eq] at hp
        obtain ⟨⟨⟨_, _⟩, hpos⟩, hpe⟩ := hp
        have hpos' : 0 < P.cellsOf e := by simp [Nat.blt] at hpos; omega
        split at h <;> try (simp_all; done)
        · rename_i hu2; injection hu2 with hu2; injection hu2 with hu2; subst hu2
          exact ⟨_, .snil hu, .one .nil rfl rfl⟩
        · rename_i e' a len cap hu2
          injection hu2 with hu2; injection hu2 with hu2; subst hu2
          simp only at h
          split at h <;> try (cases h; done)
          rename_i hc
          obtain ⟨hb, hlc, hcm⟩ := hc
          cases hmm : (List.range len).mapM (fun i => (w.cells? base (a.add (i * P.cellsOf e)) (P.cellsOf e)).bind (DataW.trod enc P w base spare held fuel e)) with
          | none => rw [hmm] at h; cases h
          | some ys =>
            clear h
            have hyl := mapM_some_length hmm
            have each : ∀ i, i < len → ∃ xs, ∃ ci, w.cells? base (a.add (i * P.cellsOf e)) (P.cellsOf e) = some ci ∧ Typed P e xs ∧ CellsR w xs ci := by
              intro i hi
              have h1 := mapM_some_get hmm i i (by simp [hi])
              have h2 : ys[i]? = some (ys[i]'(by rw [hyl]; simpa using hi)) := List.getElem?_eq_getElem _
              rw [h2] at h1
              cases hcc : w.cells? base (a.add (i * P.cellsOf e)) (P.cellsOf e) with
              | none => rw [hcc] at h1; cases h1
              | some ci =>
                rw [hcc] at h1
                simp only [Option.bind_some] at h1
                obtain ⟨xs, g1, g2⟩ := ih m e ci _ _ (by rw [h1]) hpe
                exact ⟨xs, ci, rfl, g1, g2⟩
            obtain ⟨X, hX⟩ : ∃ X : Nat → List Tr, ∀ i, i < len → ∃ ci, w.cells? base (a.add (i * P.cellsOf e)) (P.cellsOf e) = some ci ∧ Typed P e (X i) ∧ CellsR w (X i) ci :=
              ⟨fun i => if h : i < len then Classical.choose (each i h) else [], fun i h => by simp only [dif_pos h]; exact Classical.choose_spec (each i h)⟩
            have hXl : ∀ i, i < len → (X i).length = P.cellsOf e := fun i h => by
              obtain ⟨ci, h1, _, h3⟩ := hX i h
              rw [h3.1]; exact (World.cells?_some h1).2.1
            have hag := plain_ag hpe
            have hcell : ∀ i, i < len → (mkEl (aggB P e) (X i)).cells = X i := fun i h => by
              obtain ⟨ci, h1, _, h3⟩ := hX i h
              refine mkEl_cells h3 (hag.imp id fun h4 => ⟨h4.1, by rw [hXl i h]; exact h4.2⟩)
            generalize hldef : (List.range len).map (fun i => mkEl (aggB P e) (X i)) = l
            have hl : l.length = len := by rw [← hldef]; simp
            have hget : ∀ (i : Nat) y, l[i]? = some y → i < len ∧ y = mkEl (aggB P e) (X i) := by
              intro i y hy
              have hi := (List.getElem?_eq_some_iff.1 hy).1
              rw [hl] at hi
              rw [← hldef, List.getElem?_map, List.getElem?_range hi] at hy
              simp only [Option.map_some, Option.some.injEq] at hy
              exact ⟨hi, hy.symm⟩
            have hmem : ∀ y ∈ l, ∃ i, i < len ∧ y = mkEl (aggB P e) (X i) := by
              intro y hy
              obtain ⟨i, hi⟩ := List.mem_iff_getElem?.1 hy
              exact ⟨i, hget i y hi⟩
            have hlen : ∀ x ∈ l, x.cells.length = P.cellsOf e := by
              intro y hy
              obtain ⟨i, hi, rfl⟩ := hmem y hy
              rw [hcell i hi, hXl i hi]
            have hspot : flat l ≠ [] → a.spot = none := by
              intro hne
              have hpl : 0 < len := by
                rcases Nat.eq_zero_or_pos len with h0 | h0
                · rw [h0] at hl; have := List.eq_nil_of_length_eq_zero hl; subst this; exact absurd rfl hne
                · exact h0
              obtain ⟨ci, h1, _, _⟩ := hX 0 hpl
              obtain ⟨_, h5, h6⟩ := World.cells?_some h1
              have h7 := h6 0 hpos'
              rw [List.getElem?_eq_getElem (by omega : 0 < ci.length)] at h7
              have := World.cell?_spot h7
              simpa [Addr.add] using this
            refine ⟨[.sl true l], .sl hu (fun y hy => ?_) (fun y hy hag2 => ?_) hlen (fun y hy hag2 => ?_), .one ?_ rfl rfl⟩
            · obtain ⟨i, hi, rfl⟩ := hmem y hy
              rw [hcell i hi]
              obtain ⟨ci, _, h2, _⟩ := hX i hi
              exact h2
            · obtain ⟨i, hi, rfl⟩ := hmem y hy
              rw [hag2]; rfl
            · obtain ⟨i, hi, rfl⟩ := hmem y hy
              obtain ⟨ci, _, _, h3⟩ := hX i hi
              have hx1 : (X i).length = 1 := by
                rcases hag with h9 | h9
                · rw [hag2] at h9; cases h9
                · rw [hXl i hi]; exact h9.2
              obtain ⟨x, hx⟩ := List.length_eq_one_iff.1 hx1
              rw [hx] at h3 ⊢
              rw [hag2]
              exact (h3.2 0 x rfl).2.1
            · have key : ∀ (k : Nat) x, (flat l)[k]? = some x → ∃ v, w.cell? (a.add k) = some v ∧ Reads w (fun _ => False) x v ∧ v.oneCell' = true := by
                intro k x hk
                have hs := hspot (by intro e0; rw [e0] at hk; simp at hk)
                obtain ⟨y, hy, hyk⟩ := flat_at hpos' hlen hk
                obtain ⟨hi, rfl⟩ := hget _ y hy
                rw [hcell _ hi] at hyk
                obtain ⟨ci, h1, _, h3⟩ := hX _ hi
                obtain ⟨_, h5, h6⟩ := World.cells?_some h1
                have hj : k % P.cellsOf e < P.cellsOf e := Nat.mod_lt _ hpos'
                have h7 := h6 _ hj
                rw [add_add a hs, Nat.mul_comm, Nat.div_add_mod] at h7
                have h8 := h3.2 _ x hyk
                refine ⟨ci.getD (k % P.cellsOf e) undef, ?_, h8.1, h8.2.2⟩
                rw [h7]; simp [List.getD, List.getElem?_eq_getElem (by omega : k % P.cellsOf e < ci.length)]
              have := Reads.sl (w := w) (L := fun _ => False) (l := l) (a := a) (cap := cap) (esz := P.cellsOf e) (vals := fun k => (w.cell? (a.add k)).getD undef) hspot (by omega) hcm hlen
                (fun k x hk => by obtain ⟨v, h1, h2, h3⟩ := key k x hk; rw [h1]; exact ⟨id, rfl, h3⟩) (fun k x hk => by obtain ⟨v, h1, h2, h3⟩ := key k x hk; rw [h1]; exact h2)
              rw [hl] at this
              exact this
      · rename_i fs hu
        rw [hu] at h
        simp only [Bool.and_eq_true, beq_iff_eq, List.all_eq_true] at hp
        obtain ⟨⟨hag, hlaid⟩, hall⟩ := hp
        have h : (if cs.length = P.cellsOf t then (fs.toList.mapM fun f => DataW.trod enc P w base spare held fuel f.type ((cs.drop f.offset).take (P.cellsOf f.type))).map fun xs => (DataW.agg (xs.map (·.1)), xs.flatMap (·.2)) else none) = some (d, ps) := by
          split at h <;> simp_all
        split at h <;> try (cases h; done)
        rename_i hcl
        cases hmm : fs.toList.mapM (fun f => DataW.trod enc P w base spare held fuel f.type ((cs.drop f.offset).take (P.cellsOf f.type))) with
        | none => rw [hmm] at h; cases h
        | some ys =>
          have hf : ∀ f ∈ fs.toList, ∃ xs, Typed P f.type xs ∧ CellsR w xs ((cs.drop f.offset).take (P.cellsOf f.type)) := by
            intro f hfm
            obtain ⟨i, hi⟩ := List.mem_iff_getElem?.1 hfm
            have h1 := mapM_some_get hmm i f hi
            have hlt : i < ys.length := by rw [mapM_some_length hmm]; exact (List.getElem?_eq_some_iff.1 hi).1
            rw [List.getElem?_eq_getElem hlt] at h1
            exact ih m f.type _ _ _ (by rw [h1]) (hall f hfm)
          obtain ⟨zs, g1, g2⟩ := fields_typed (P := P) (w := w) (R := fun t c => ∃ xs, Typed P t xs ∧ CellsR w xs c) (fun _ _ h => h) (cs := cs) fs.toList 0 _ hlaid (Nat.zero_le _) hcl.symm hf
          refine ⟨zs, .struct hu (by rw [g1.1]; simpa using hcl) (fun f hfm => ?_), by simpa using g1⟩
          simpa using (g2 f hfm).2
      · cases hp


theorem arg_agg {m : Nat} {t : TypeId} {vs : Array Value} {d : DataW H} {ps : List MemPlace} (h : DataW.Trod enc P w base spare held t (.agg vs) d ps) (hp : plainT P m t = true) : ∃ xs, Typed P t xs ∧ Reads w (fun _ => False) (.agg xs) (.agg vs) := by
  obtain ⟨fuel, hf⟩ := h
  obtain ⟨xs, h1, h2⟩ := trod_typed fuel m t _ d ps hf hp
  refine ⟨xs, h1, .agg (by rw [h2.1]; simp [Value.cells]) fun i x hx => ?_⟩
  have := (h2.2 i x hx).1
  have e : ((Value.agg vs).cells.toList).getD i undef = vs.getD i undef := by simp [Value.cells, List.getD, Array.getD]; split <;> simp_all
  rw [e] at this; exact this
theorem arg_one {m : Nat} {t : TypeId} {v : Value} {d : DataW H} {ps : List MemPlace} (h : DataW.Trod enc P w base spare held t v d ps) (hp : plainT P m t = true) (hv : v.cells = #[v]) : ∃ x, Typed P t [x] ∧ Reads w (fun _ => False) x v := by
  obtain ⟨fuel, hf⟩ := h
  obtain ⟨xs, h1, h2⟩ := trod_typed fuel m t _ d ps hf hp
  rw [hv] at h2
  obtain ⟨x, rfl⟩ := List.length_eq_one_iff.1 (by rw [h2.1]; rfl)
  exact ⟨x, h1, by simpa using (h2.2 0 x rfl).1⟩
end
end Go.Vm
