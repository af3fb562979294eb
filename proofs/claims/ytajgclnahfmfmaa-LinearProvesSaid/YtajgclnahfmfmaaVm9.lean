/- The abstract machine: one operation, a call, a region in the text's order. -/
import Derived.Test.YtajgclnahfmfmaaVmM
namespace Go.Vm
open Go

section
variable {P : Program} {A : Nat → Prop} {μ : Id → Nat} {w : World} {mu : Nat → Bool}

theorem parts_rel {s : St} {a : Act} (hs : ∀ t, VR s.hp μ w (LL A s.hp μ) (s.sl t) (a.tmps.getD t undef)) (parts : Array (Nat × Operand)) :
    (parts.toList.map fun p => (p.1, ev s.sl p.2)).length = (parts.map fun (i, x) => (i, a.eval x)).toList.length ∧
    ∀ (i : Nat) x y, (parts.toList.map fun p => (p.1, ev s.sl p.2))[i]? = some x → (parts.map fun (i, x) => (i, a.eval x)).toList[i]? = some y → x.1 = y.1 ∧ VR s.hp μ w (LL A s.hp μ) x.2 y.2 := by
  refine ⟨by simp, fun i x y hx hy => ?_⟩
  rw [List.getElem?_map] at hx
  simp only [Array.toList_map, List.getElem?_map] at hy
  cases hp : parts.toList[i]? with
  | none => simp [hp] at hx
  | some p =>
    rw [hp] at hx hy
    simp only [Option.map_some, Option.some.injEq] at hx hy
    subst hx; subst hy
    exact ⟨rfl, ev_VR hs p.2⟩

theorem evs_get (sl : Sl) : ∀ (l : List Operand) (i : Nat), (evs sl l)[i]? = (l[i]?).map (ev sl)
  | [], i => by simp [evs]
  | x :: l, 0 => by simp [evs]
  | x :: l, i + 1 => by simpa [evs] using evs_get sl l i
theorem evs_length (sl : Sl) : ∀ (l : List Operand), (evs sl l).length = l.length
  | [] => rfl
  | _ :: l => by simp [evs, evs_length sl l]

def ivalue : PV → Value
  | .t (.int k n) => .int k n
  | _ => undef
theorem min2_good {P : Program} {h : Hp} {p q v : PV} {u u' : Value} (hp : VR h μ w (LL A h μ) p u) (hq : VR h μ w (LL A h μ) q u') (hl : minPV p q = some v) :
    (Builtin.min2 u u').run P w = .ok (ivalue v) w ∧ VR h μ w (LL A h μ) v (ivalue v) := by
  unfold minPV at hl
  split at hl <;> try (simp at hl; done)
  rename_i k x k' y
  split at hl <;> simp at hl
  rename_i hk; subst hk
  subst hl
  have := int_of hp.tree; subst this
  have := int_of hq.tree; subst this
  exact ⟨by simp [Builtin.min2, ivalue], .t (.int _ _)⟩
theorem max2_good {P : Program} {h : Hp} {p q v : PV} {u u' : Value} (hp : VR h μ w (LL A h μ) p u) (hq : VR h μ w (LL A h μ) q u') (hl : maxPV p q = some v) :
    (Builtin.max2 u u').run P w = .ok (ivalue v) w ∧ VR h μ w (LL A h μ) v (ivalue v) := by
  unfold maxPV at hl
  split at hl <;> try (simp at hl; done)
  rename_i k x k' y
  split at hl <;> simp at hl
  rename_i hk; subst hk
  subst hl
  have := int_of hp.tree; subst this
  have := int_of hq.tree; subst this
  exact ⟨by simp [Builtin.max2, ivalue], .t (.int _ _)⟩

/-- AN OPERATION THAT IS NO CALL OF A FUNCTION. -/
theorem evalOp_good {s : St} {a : Act} {o : Oper} {v : PV} {h' : Hp} (hs : ∀ t, VR s.hp μ w (LL A s.hp μ) (s.sl t) (a.tmps.getD t undef)) (hr : HR A s.hp μ w) (he : evalOp P mu o s = some (v, h')) :
    Good A s.hp μ w ((execOp a.eval o).run P w) v h' := by
  have E := fun x => ev_VR hs x
  have quiet : ∀ {v : PV} {v' : Value} {r : Result Next}, r = .ok (.value v') w → VR s.hp μ w (LL A s.hp μ) v v' → Good A s.hp μ w r v s.hp := fun hr' hv => by rw [hr']; exact Good.quiet hr hv
  unfold evalOp at he
  cases hop : o.op <;> simp only [hop] at he <;> try (simp at he; done)
  case move x => cases he; exact quiet (by simp [execOp, hop]) (E x)
  case assign x => cases he; exact quiet (by simp [execOp, hop]) (E x)
  case pick c x y =>
    split at he <;> simp at he
    rename_i b hb
    obtain ⟨rfl, rfl⟩ := he
    have hc := E c
    unfold boolOf at hb
    split at hb <;> simp at hb
    subst hb
    rename_i b hcb
    rw [hcb] at hc
    have hc := bool_of hc.tree
    cases b
    · exact quiet (v' := a.eval y) (by simp [execOp, hop, hc, asBool]) (by simpa using E y)
    · exact quiet (v' := a.eval x) (by simp [execOp, hop, hc, asBool]) (by simpa using E x)
  case alloc t =>
    split at he <;> try (simp at he; done)
    rename_i z hz
    obtain ⟨i, zv, hi, hzv, hzs, hzc⟩ := zero_cells (h := s.hp) (μ := μ) (w := w) hz (LL A s.hp μ)
    obtain ⟨μ', h1, h2, h3⟩ := newVar_good hr (by simp [hzs]) hzc he
    exact ⟨_, _, _, μ', by simp [execOp, hop, Instr.alloc, zeroValue, typeInfo, hi, hzv, newVar, newRow], .inl rfl, h1, h2, h3⟩
  case box t x =>
    have hone : (ev s.sl x).cells.all PV.one = true := by
      unfold newVarPV at he
      split at he <;> try (simp at he; done)
      split at he <;> try (simp at he; done)
      rename_i hc; exact hc.2.2.2
    obtain ⟨h1, h2⟩ := (E x).cells hone
    obtain ⟨μ', g1, g2, g3⟩ := newVar_good hr h1 ⟨by rw [h1]; exact Nat.le_refl _, h2⟩ he
    exact ⟨_, _, _, μ', by simp [execOp, hop, Instr.box, newVar, newRow], .inl rfl, g1, g2, g3⟩
  case build t parts =>
    unfold still at he
    split at he <;> simp at he
    obtain ⟨rfl, rfl⟩ := he
    rename_i v hv
    obtain ⟨hl, hp⟩ := parts_rel hs parts
    obtain ⟨v', h1, h2⟩ := build_good (P := P) hl hp hv
    exact quiet (by simp only [execOp, hop, Sem.run_bind, h1, Result.andThen_ok, Sem.run_pure]) h2
  case buildSlice t len parts =>
    obtain ⟨hl, hp⟩ := parts_rel hs parts
    obtain ⟨v', w', μ', h1, h2, h3, h4⟩ := buildSlice_good (P := P) hr hl hp he
    exact ⟨_, v', w', μ', by simp only [execOp, hop, Sem.run_bind, h1, Result.andThen_ok, Sem.run_pure], .inl rfl, h2, h3, h4⟩
  case load t x =>
    unfold still at he
    split at he <;> simp at he
    obtain ⟨rfl, rfl⟩ := he
    rename_i v hv
    obtain ⟨v', h1, h2⟩ := load_good (P := P) hr (E x) hv
    exact quiet (by simp only [execOp, hop, Sem.run_bind, h1, Result.andThen_ok, Sem.run_pure]) h2
  case store t x y =>
    split at he <;> simp at he
    obtain ⟨rfl, rfl⟩ := he
    rename_i h' hst
    obtain ⟨w', μ', h1, h2, h3⟩ := store_good (P := P) hr (E x) (E y) hst
    exact ⟨_, undef, w', μ', by simp only [execOp, hop, Sem.run_bind, h1, Result.andThen_ok, Sem.run_pure], .inr ⟨rfl, rfl⟩, h2, h3, .skip⟩
  case nilCheck x =>
    have hx := E x
    split at he <;> try (simp at he; done)
    · cases he
      rename_i cs hcs
      rw [hcs] at hx
      have hval : ∃ ad : Addr, a.eval x = .pointer (some ad) := by
        generalize a.eval x = u at hx
        cases hx; exact ⟨_, rfl⟩
      obtain ⟨ad, hval⟩ := hval
      rw [hval] at hx
      exact quiet (by simp [execOp, hop, hval]) hx
    · rename_i id n off hcs
      split at he <;> simp at he
      obtain ⟨rfl, rfl⟩ := he
      rename_i hv
      rw [hcs] at hx
      have hval := hx.ad_val hv
      rw [hval] at hx
      exact quiet (by simp [execOp, hop, hval]) hx
  case binOp op xt x y yt =>
    unfold still at he
    split at he <;> simp at he
    obtain ⟨rfl, rfl⟩ := he
    rename_i v hv
    obtain ⟨v', h1, h2⟩ := bin_good (P := P) (E x) (E y) hv (x := x) (y := y)
    exact quiet (by simp only [execOp, hop]; rw [Sem.run_bind, h1, Result.andThen_ok, Sem.run_pure]) h2
  case unOp op xt x =>
    unfold still at he
    split at he <;> simp at he
    obtain ⟨rfl, rfl⟩ := he
    rename_i v hv
    obtain ⟨v', h1, h2⟩ := un_good (P := P) (E x) hv
    exact quiet (by simp only [execOp, hop, Sem.run_bind, h1, Result.andThen_ok, Sem.run_pure]) h2
  case convert src dst x =>
    unfold still at he
    split at he <;> simp at he
    obtain ⟨rfl, rfl⟩ := he
    rename_i v hv
    obtain ⟨v', h1, h2⟩ := conv_good (P := P) (E x) hv
    exact quiet (by simp only [execOp, hop, Sem.run_bind, h1, Result.andThen_ok, Sem.run_pure]) h2
  case makeFunc fn first captured =>
    cases fn <;> simp only at he <;> try (simp at he; done)
    rename_i f
    split at he <;> simp at he
    rename_i hf
    obtain ⟨rfl, rfl⟩ := he
    have hfe : first.map a.eval = #[] := by
      have : first = #[] := by
        apply Array.ext'
        simpa [List.isEmpty_iff] using hf
      rw [this]; simp
    refine quiet (v' := .func (.func f) #[] (captured.map a.eval)) (by simp [execOp, hop, Instr.makeFunc, hfe]) ?_
    refine VR.mkFn (by rw [evs_length]; simp) fun i x hx => ?_
    rw [evs_get] at hx
    cases hp : captured.toList[i]? with
    | none => simp [hp] at hx
    | some p =>
      rw [hp] at hx
      simp only [Option.map_some, Option.some.injEq] at hx; subst hx
      have hlt : i < captured.size := by
        have := (List.getElem?_eq_some_iff.1 hp).1; simpa using this
      have hp' : captured[i] = p := by
        have := (List.getElem?_eq_some_iff.1 hp).2; simpa using this
      have : (captured.map a.eval).getD i Go.undef = a.eval p := by simp [Array.getD, hlt, hp']
      rw [this]; exact E p
  case makeSlice t n m =>
    obtain ⟨v', w', μ', h1, h2, h3, h4⟩ := makeSlice_good (P := P) hr (E n) (E m) he
    exact ⟨_, v', w', μ', by simp only [execOp, hop, Sem.run_bind, h1, Result.andThen_ok, Sem.run_pure], .inl rfl, h2, h3, h4⟩
  case slice t x lo hi mx =>
    cases mx <;> simp only at he <;> try (simp at he; done)
    obtain ⟨v', w', μ', h1, h2, h3, h4⟩ := slice_good (P := P) hr hs he
    exact ⟨_, v', w', μ', by simp only [execOp, hop, Sem.run_bind, Option.map_none, h1, Result.andThen_ok, Sem.run_pure], .inl rfl, h2, h3, h4⟩
  case fieldAddr st x i =>
    unfold still at he
    split at he <;> simp at he
    obtain ⟨rfl, rfl⟩ := he
    rename_i v hv
    obtain ⟨v', h1, h2⟩ := fieldAddr_good (P := P) (E x) hv
    exact quiet (by simp only [execOp, hop, Sem.run_bind, h1, Result.andThen_ok, Sem.run_pure]) h2
  case field st x i =>
    unfold still at he
    split at he <;> simp at he
    obtain ⟨rfl, rfl⟩ := he
    rename_i v hv
    obtain ⟨v', h1, h2⟩ := field_good (P := P) (E x) hv
    exact quiet (by simp only [execOp, hop, Sem.run_bind, h1, Result.andThen_ok, Sem.run_pure]) h2
  case indexAddr t x i =>
    unfold still at he
    split at he <;> simp at he
    obtain ⟨rfl, rfl⟩ := he
    rename_i v hv
    obtain ⟨v', h1, h2⟩ := indexAddr_good (P := P) (E x) (E i) hv
    exact quiet (by simp only [execOp, hop, Sem.run_bind, h1, Result.andThen_ok, Sem.run_pure]) h2
  case index t x i =>
    unfold still at he
    split at he <;> simp at he
    obtain ⟨rfl, rfl⟩ := he
    rename_i v hv
    obtain ⟨v', h1, h2⟩ := index_good (P := P) (E x) (E i) hv
    exact quiet (by simp only [execOp, hop, Sem.run_bind, h1, Result.andThen_ok, Sem.run_pure]) h2
  case makeMap t r =>
    cases r <;> simp only at he <;> try (simp at he; done)
    obtain ⟨v', w', μ', h1, h2, h3, h4⟩ := makeMap_good (P := P) hr he
    exact ⟨_, v', w', μ', by simp only [execOp, hop, Sem.run_bind, Option.map_none, h1, Result.andThen_ok, Sem.run_pure], .inl rfl, h2, h3, h4⟩
  case mapEntry t m k =>
    obtain ⟨v', w', μ', h1, h2, h3, h4⟩ := mapEntry_good (P := P) hr (E m) (E k) he
    exact ⟨_, v', w', μ', by simp only [execOp, hop, Sem.run_bind, h1, Result.andThen_ok, Sem.run_pure], .inl rfl, h2, h3, h4⟩
  case entryStore t m i x =>
    split at he <;> simp at he
    obtain ⟨rfl, rfl⟩ := he
    rename_i h' hst
    obtain ⟨w', μ', h1, h2, h3⟩ := entryStore_good (P := P) (t := t) hr (E m) (E i) (E x) hst
    exact ⟨_, undef, w', μ', by simp only [execOp, hop, Sem.run_bind, h1, Result.andThen_ok, Sem.run_pure], .inr ⟨rfl, rfl⟩, h2, h3, .skip⟩
  case range t m =>
    obtain ⟨v', w', μ', h1, h2, h3, h4⟩ := range_good (P := P) hr (E m) he
    exact ⟨_, v', w', μ', by simp only [execOp, hop, Sem.run_bind, h1, Result.andThen_ok, Sem.run_pure], .inl rfl, h2, h3, h4⟩
  case extract x i =>
    have hx := E x
    split at he
    · rename_i l hl
      split at he <;> simp at he
      obtain ⟨rfl, rfl⟩ := he
      rename_i y hy
      rw [hl] at hx
      have hval : ∃ vs : Array Value, a.eval x = .tuple vs ∧ l.length = vs.size ∧ Reads w (LL A s.hp μ) y (vs.getD i Go.undef) := by
        generalize a.eval x = u at hx
        have := hx.tree
        cases this with
        | tup hl' hh => exact ⟨_, rfl, hl', hh i y hy⟩
      obtain ⟨vs, hval, hsz, hrd⟩ := hval
      have hlt : i < vs.size := by rw [← hsz]; exact (List.getElem?_eq_some_iff.1 hy).1
      exact quiet (by simp [execOp, hop, hval, Instr.extract, hlt]; rfl) (.t (by simpa [Array.getD, hlt] using hrd))
    · rename_i l hl
      split at he <;> simp at he
      obtain ⟨rfl, rfl⟩ := he
      rename_i y hy
      rw [hl] at hx
      have hval : ∃ vs : Array Value, a.eval x = .tuple vs ∧ l.length = vs.size ∧ VR s.hp μ w (LL A s.hp μ) y (vs.getD i Go.undef) := by
        generalize a.eval x = u at hx
        cases hx with
        | tup hl' hh => exact ⟨_, rfl, hl', hh i y hy⟩
      obtain ⟨vs, hval, hsz, hrd⟩ := hval
      have hlt : i < vs.size := by rw [← hsz]; exact (List.getElem?_eq_some_iff.1 hy).1
      exact quiet (by simp [execOp, hop, hval, Instr.extract, hlt]; rfl) (by simpa [Array.getD, hlt] using hrd)
    · simp at he
  case call c =>
    obtain ⟨callee, args, argTypes⟩ := c
    simp only at he
    split at he
    · -- len
      rename_i x t rest hargs htys
      have ha : args = #[x] := Array.ext' hargs
      have hat : argTypes[0]? = some t := by rw [← Array.getElem?_toList, htys]; rfl
      subst ha
      split at he
      · rename_i hst
        split at he <;> simp at he
        obtain ⟨rfl, rfl⟩ := he
        rename_i b hb
        have hx := E x
        rw [hb] at hx
        have := str_of hx.tree
        exact quiet (by simp [execOp, hop, resolve, invoke, builtin, Builtin.len_, hat, run_underlying (str_under hst), this, goInt]) (.t (.int _ _))
      · split at he <;> try (simp at he; done)
        rename_i hel
        unfold still at he
        split at he <;> simp at he
        obtain ⟨rfl, rfl⟩ := he
        rename_i v hv
        obtain ⟨e, he'⟩ := Option.isSome_iff_exists.1 hel
        obtain ⟨hu, _⟩ := elem_under he'
        have hx := E x
        have hval : ∃ b n c, a.eval x = .slice b n c ∧ v = .t (.int .i64 n) := by
          unfold lenPV at hv
          split at hv <;> simp at hv
          · subst hv
            rename_i l hl
            rw [hl] at hx
            rcases sl_of hx.tree with ⟨_, rfl, h⟩ | ⟨_, b, cap, _, _, h, _⟩
            · exact ⟨_, _, _, h, rfl⟩
            · exact ⟨_, _, _, h, rfl⟩
          · obtain ⟨hv, rfl⟩ := hv
            rename_i hl
            rw [hl] at hx
            obtain ⟨cap, h⟩ := hx.rf_val hv
            exact ⟨_, _, _, h, rfl⟩
        obtain ⟨b, n, c, hval, rfl⟩ := hval
        exact quiet (by simp [execOp, hop, resolve, invoke, builtin, Builtin.len_, hat, run_underlying hu, hval, goInt]) (.t (.int _ _))
    · -- append
      rename_i x y t u hargs htys
      have ha : args = #[x, y] := Array.ext' hargs
      have hat : argTypes = #[t, u] := Array.ext' htys
      subst ha; subst hat
      split at he <;> try (simp at he; done)
      rename_i htu; subst htu
      obtain ⟨v', w', μ', h1, h2, h3, h4⟩ := append_good (P := P) (ty := o.type) hr (E x) (E y) he
      exact ⟨_, v', w', μ', by
        simp only [execOp, hop, resolve, invoke, builtin, Sem.run_bind, Sem.run_pure, Result.andThen_ok, List.map_toArray, List.map_cons, List.map_nil, h1], .inl rfl, h2, h3, h4⟩
    · rename_i x y hargs
      have ha : args = #[x, y] := Array.ext' hargs
      subst ha
      unfold still at he
      split at he <;> simp at he
      obtain ⟨rfl, rfl⟩ := he
      rename_i v hv
      obtain ⟨h1, h2⟩ := min2_good (P := P) (E x) (E y) hv
      exact quiet (by simp [execOp, hop, resolve, invoke, builtin, Builtin.min_, h1]) h2
    · rename_i x y hargs
      have ha : args = #[x, y] := Array.ext' hargs
      subst ha
      unfold still at he
      split at he <;> simp at he
      obtain ⟨rfl, rfl⟩ := he
      rename_i v hv
      obtain ⟨h1, h2⟩ := max2_good (P := P) (E x) (E y) hv
      exact quiet (by simp [execOp, hop, resolve, invoke, builtin, Builtin.max_, h1]) h2
    · simp at he
end
end Go.Vm
