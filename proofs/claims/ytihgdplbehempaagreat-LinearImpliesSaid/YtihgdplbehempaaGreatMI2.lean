import Derived.Test.YtihgdplbehempaaGreatMI1
set_option linter.unusedSimpArgs false
set_option linter.unusedVariables false
section
namespace Go.Vm
open Go
theorem kvP_kvC : ∀ kv : List (Int × Int), kvP (kvC kv) = some kv
  | [] => rfl
  | (k, v) :: r => by simp only [kvC, kvP, kvP_kvC r]
theorem kvC_inj {a b : List (Int × Int)} (h : kvC a = kvC b) : a = b := by
  have := congrArg kvP h
  rw [kvP_kvC, kvP_kvC] at this
  exact Option.some.inj this
theorem flC_inj {a b : List Bool} (h : flC a = flC b) : a = b := by
  induction a generalizing b with
  | nil => cases b with
    | nil => rfl
    | cons => simp [flC] at h
  | cons x a ih =>
    cases b with
    | nil => simp [flC] at h
    | cons y b =>
      simp only [flC, List.map_cons, List.cons.injEq, PV.t.injEq, Tr.bool.injEq] at h
      rw [h.1, ih h.2]
theorem entA_get : ∀ (kv : List (Int × Int)) (i j : Nat), (entA i kv)[j]? = (kv[j]?).map fun x => ⟨.int .i64 x.1, .int .i64 x.2, i + j⟩
  | [], _, _ => rfl
  | x :: r, i, 0 => rfl
  | x :: r, i, j + 1 => by
    simp only [entA, List.getElem?_cons_succ, entA_get r (i + 1) j]
    rw [show i + 1 + j = i + (j + 1) by omega]
theorem entA_snoc : ∀ (kv : List (Int × Int)) (x : Int × Int) (i : Nat), entA i (kv ++ [x]) = entA i kv ++ [⟨.int .i64 x.1, .int .i64 x.2, i + kv.length⟩]
  | [], _, _ => rfl
  | y :: r, x, i => by
    simp only [List.cons_append, entA, entA_snoc r x (i + 1), List.length_cons]
    rw [show i + 1 + r.length = i + (r.length + 1) by omega]
theorem findNow_kv (d k : Int) : ∀ (kv : List (Int × Int)) (a i : Nat), Instr.findNow (.int .i64) (.int .i64 k) (entA a kv) i = some ((kvIdx k i kv).map fun x => (x.1, Value.int .i64 x.2))
  | [], _, _ => rfl
  | x :: r, a, i => by
    have ih := findNow_kv d k r (a + 1) (i + 1)
    simp only [entA, Instr.findNow, Instr.sameNow, if_true, kvIdx]
    by_cases h : k = x.1
    · simp [h]
    · have : (k == x.1) = false := by simpa using h
      rw [this, if_neg h]
      exact ih
theorem kvIdx_some {k : Int} : ∀ {kv : List (Int × Int)} {i j : Nat} {v : Int}, kvIdx k i kv = some (j, v) → ∃ n, j = i + n ∧ kv[n]? = some (k, v)
  | [], _, _, _, h => by simp [kvIdx] at h
  | x :: r, i, j, v, h => by
    simp only [kvIdx] at h
    split at h
    · rename_i e
      simp only [Option.some.injEq, Prod.mk.injEq] at h
      exact ⟨0, by omega, by rw [e, ← h.2]; rfl⟩
    · obtain ⟨n, h1, h2⟩ := kvIdx_some h
      exact ⟨n + 1, by omega, by simpa using h2⟩
section
variable {P : Program} {A : Nat → Prop} {h : Hp} {μ : Id → Nat} {w : World}
theorem mapB_spec {t : TypeId} (hb : mapB P t = true) : ∃ k e i, P.underlying t = some (.map k e) ∧ P.underlying k = some (.int .i64) ∧ P.info? e = some i ∧ i.zero = some (.int .i64 0) := by
  unfold mapB at hb
  split at hb
  · rename_i k e hu
    simp only [Bool.and_eq_true, beq_iff_eq] at hb
    obtain ⟨h1, h2⟩ := hb
    have hk : P.underlying k = some (.int .i64) := by
      unfold intB at h1
      split at h1
      · rename_i hk; cases h1; exact hk
      · cases h1
    split at h2
    · rename_i hz
      cases hi : P.info? e with
      | none => simp [hi] at hz
      | some i => exact ⟨k, e, i, hu, hk, hi, by simpa [hi] using hz⟩
    · cases h2
  · cases hb
theorem run_zeroInt {e : TypeId} {i : TypeInfo} (hi : P.info? e = some i) (hz : i.zero = some (.int .i64 0)) (w : World) : (zeroValue e).run P w = .ok (.int .i64 0) w := by
  simp [zeroValue, typeInfo, hi, hz]
theorem HR.map (hr : HR A h μ w) {id : Id} {o : Obj} (ho : hget h id = some o) (hz : o.esz = 0) (hg : o.ag = true) : ∃ kv, o.cs = kvC kv ∧ w.heap[μ id]? = some (.map (entA 0 kv).toArray kv.length) := (hr.spec id o ho hz).2.1 hg
theorem makeMap_good (hr : HR A h μ w) {mu : Nat → Bool} {dst : Option Tmp} {t : TypeId} {v : PV} {h' : Hp} (he : makeMapPV P mu dst t h = some (v, h')) :
    ∃ v' w' μ', (Instr.makeMap t none).run P w = .ok v' w' ∧ HR A h' μ' w' ∧ Ext h μ w h' μ' w' ∧ VR h' μ' w' (LL A h' μ') v v' := by
  unfold makeMapPV at he
  split at he <;> try (cases he; done)
  rename_i d
  split at he <;> cases he
  obtain ⟨h1, h2⟩ := HR.newS hr d ⟨[], 0, 0, t, true, true⟩ (.map #[] 0) rfl rfl (fun _ _ _ => by simp) (fun _ => ⟨[], rfl, rfl⟩) (fun h => by cases h)
  refine ⟨_, _, _, rfl, h1, h2, ?_⟩
  have := VR.mp (h := hnew h d ⟨[], 0, 0, t, true, true⟩) (μ := setμ μ (hnext h d) w.heap.size) (w := w.alloc (.map #[] 0)) (L := LL A (hnew h d ⟨[], 0, 0, t, true, true⟩) (setμ μ (hnext h d) w.heap.size)) (id := hnext h d) (o := ⟨[], 0, 0, t, true, true⟩) (by rw [hget_hnew, if_pos rfl]) rfl rfl
  rw [setμ_same] at this
  exact this
theorem range_good (hr : HR A h μ w) {mu : Nat → Bool} {dst : Option Tmp} {t : TypeId} {m v : PV} {u : Value} {h' : Hp} (hm : VR h μ w (LL A h μ) m u) (he : rangePV P mu dst t m h = some (v, h')) :
    ∃ v' w' μ', (Instr.range t u).run P w = .ok v' w' ∧ HR A h' μ' w' ∧ Ext h μ w h' μ' w' ∧ VR h' μ' w' (LL A h' μ') v v' := by
  unfold rangePV at he
  split at he <;> try (cases he; done)
  rename_i d id
  split at he <;> try (cases he; done)
  rename_i o ho
  split at he <;> try (cases he; done)
  rename_i hc
  obtain ⟨_, hz, hg, hb⟩ := hc
  obtain ⟨kv, hcs, hheap⟩ := hr.map ho hz hg
  rw [hcs, kvP_kvC] at he
  simp only [Option.some.injEq, Prod.mk.injEq] at he
  obtain ⟨rfl, rfl⟩ := he
  obtain ⟨k, e, i, hu, _⟩ := mapB_spec hb
  have hval : u = .map (some (μ id)) := by cases hm; rfl
  subst hval
  obtain ⟨h1, h2⟩ := HR.newS hr d ⟨.mp id :: .t (.int .i64 (-1)) :: flC (List.replicate kv.length false), 0, 0, t, false, true⟩ (.mapIter (some (μ id)) kv.length #[] kv.length) rfl rfl (fun _ _ _ => by simp) (fun h => by cases h)
    (fun _ => ⟨id, o, -1, List.replicate kv.length false, #[], rfl, ho, hz, hg, by simp, fun h => by omega, fun i => by simp [List.getD, List.getElem?_replicate]; split <;> rfl⟩)
  refine ⟨_, _, _, run_range_map w t k e (μ id) _ _ hu hheap, h1, h2, ?_⟩
  have := VR.it (h := hnew h d ⟨.mp id :: .t (.int .i64 (-1)) :: flC (List.replicate kv.length false), 0, 0, t, false, true⟩) (μ := setμ μ (hnext h d) w.heap.size) (w := w.alloc (.mapIter (some (μ id)) kv.length #[] kv.length)) (L := LL A (hnew h d ⟨.mp id :: .t (.int .i64 (-1)) :: flC (List.replicate kv.length false), 0, 0, t, false, true⟩) (setμ μ (hnext h d) w.heap.size)) (id := hnext h d) (o := ⟨.mp id :: .t (.int .i64 (-1)) :: flC (List.replicate kv.length false), 0, 0, t, false, true⟩) (by rw [hget_hnew, if_pos rfl]) rfl rfl
  rw [setμ_same] at this
  exact this
theorem heap_same {w : World} {r : Nat} {o : Go.Obj} (hb : w.heap[r]? = some o) : ({ w with heap := w.heap.setIfInBounds r o } : World) = w := by
  have : w.heap.setIfInBounds r o = w.heap := by
    apply Array.ext_getElem?
    intro i
    rw [Array.getElem?_setIfInBounds]
    split
    · rename_i e; subst e
      have := (Array.getElem?_eq_some_iff.1 hb).1
      rw [if_pos this, hb]
    · rfl
  rw [this]
theorem setHeap_other {w : World} {r k : Nat} {o : Go.Obj} (hk : k ≠ r) : ({ w with heap := w.heap.setIfInBounds r o } : World).heap[k]? = w.heap[k]? := by
  simp [Ne.symm hk]
theorem setHeap_self {w : World} {r : Nat} {o o' : Go.Obj} (hb : w.heap[r]? = some o') : ({ w with heap := w.heap.setIfInBounds r o } : World).heap[r]? = some o := by
  have := (Array.getElem?_eq_some_iff.1 hb).1
  simp [this]
theorem mapEntry_good (hr : HR A h μ w) {t : TypeId} {m k v : PV} {u y : Value} {h' : Hp} (hm : VR h μ w (LL A h μ) m u) (hk : VR h μ w (LL A h μ) k y) (he : mapEntryPV P t m k h = some (v, h')) :
    ∃ v' w' μ', (Instr.mapEntry t u y).run P w = .ok v' w' ∧ HR A h' μ' w' ∧ Ext h μ w h' μ' w' ∧ VR h' μ' w' (LL A h' μ') v v' := by
  unfold mapEntryPV at he
  split at he <;> try (cases he; done)
  rename_i id k
  split at he <;> try (cases he; done)
  rename_i o ho
  split at he <;> try (cases he; done)
  rename_i hc
  obtain ⟨hz, hg, hlive, hb⟩ := hc
  obtain ⟨kv, hcs, hheap⟩ := hr.map ho hz hg
  rw [hcs, kvP_kvC] at he
  simp only at he
  obtain ⟨kt, et, i, hu, hkt, hi, hz0⟩ := mapB_spec hb
  have hval : u = .map (some (μ id)) := by cases hm; rfl
  subst hval
  have hy := int_of hk.tree
  subst hy
  have hfind := findNow_kv 0 k kv 0 0
  cases hx : kvIdx k 0 kv with
  | some q =>
    obtain ⟨j, x⟩ := q
    rw [hx] at he hfind
    simp only [Option.some.injEq, Prod.mk.injEq] at he
    obtain ⟨rfl, rfl⟩ := he
    obtain ⟨n, hn, hkn⟩ := kvIdx_some hx
    have hn : j = n := by omega
    subst hn
    have hent : (entA 0 kv)[j]? = some ⟨.int .i64 k, .int .i64 x, j⟩ := by rw [entA_get, hkn]; simp
    have hmod : (entA 0 kv).toArray.modify j (fun e => { e with key := Value.int .i64 k }) = (entA 0 kv).toArray := by
      apply Array.ext_getElem?
      intro i'
      rw [Array.getElem?_modify]
      split
      · rename_i e; subst e
        simp [hent]
      · rfl
    refine ⟨.tuple #[.int .i64 x, .int .i64 j], w, μ, ?_, hr, Ext.refl _ _ _, .t (.tup rfl fun i' y hy => ?_)⟩
    · have hrun : (Instr.mapEntry t (.map (some (μ id))) (.int .i64 k)).run P w = .ok (.tuple #[.int .i64 x, .int .i64 j]) { w with heap := w.heap.setIfInBounds (μ id) (.map ((entA 0 kv).toArray.modify j (fun e => { e with key := Value.int .i64 k })) kv.length) } := by
        simp [Instr.mapEntry, run_underlying hu, MapKept.run_getObj_map hheap, MapKept.run_checkKey hkt (show MapKept.IsKey (.int .i64) (.int .i64 k) from rfl), MapKept.run_findKey hkt hfind, hent, MapKept.run_keyThatStays (show MapKept.IsKey (.int .i64) (.int .i64 k) from rfl), MapKept.run_setObj_map _ hheap, Result.andThen, goInt]
      rw [hrun, hmod, heap_same hheap]
    · match i', hy with
      | 0, hy => simp at hy; subst hy; exact .int _ _
      | 1, hy => simp at hy; subst hy; exact .int _ _
      | n + 2, hy => simp at hy
  | none =>
    rw [hx] at he hfind
    simp only [Option.some.injEq, Prod.mk.injEq] at he
    obtain ⟨rfl, rfl⟩ := he
    have hpush : (entA 0 kv).toArray.push ⟨.int .i64 k, .int .i64 0, kv.length⟩ = (entA 0 (kv ++ [(k, 0)])).toArray := by
      rw [entA_snoc]; simp
    have hrun : (Instr.mapEntry t (.map (some (μ id))) (.int .i64 k)).run P w = .ok (.tuple #[.int .i64 0, .int .i64 kv.length]) { w with heap := w.heap.setIfInBounds (μ id) (.map (entA 0 (kv ++ [(k, 0)])).toArray (kv ++ [(k, 0)]).length) } := by
      rw [← hpush]
      simp [Instr.mapEntry, run_underlying hu, MapKept.run_getObj_map hheap, MapKept.run_checkKey hkt (show MapKept.IsKey (.int .i64) (.int .i64 k) from rfl), MapKept.run_findKey hkt hfind, run_zeroInt hi hz0, MapKept.run_setObj_map _ hheap, Result.andThen, goInt]
    obtain ⟨h1, h2⟩ := HR.setS (w' := { w with heap := w.heap.setIfInBounds (μ id) (.map (entA 0 (kv ++ [(k, 0)])).toArray (kv ++ [(k, 0)]).length) }) hr id o { o with cs := kvC (kv ++ [(k, 0)]) } (.map (entA 0 (kv ++ [(k, 0)])).toArray (kv ++ [(k, 0)]).length) ho hz hlive ⟨hz, (show o.len = 0 from hr.len0 ho hz), rfl, hlive⟩ ⟨rfl, rfl, rfl⟩ (by simp) (fun k hk => setHeap_other hk) (setHeap_self hheap)
      (fun _ => ⟨_, rfl, rfl⟩) (fun hf => by rw [hg] at hf; cases hf)
    refine ⟨_, _, μ, hrun, h1, h2, .t (.tup rfl fun i' y hy => ?_)⟩
    match i', hy with
    | 0, hy => simp at hy; subst hy; exact .int _ _
    | 1, hy => simp at hy; subst hy; exact .int _ _
    | n + 2, hy => simp at hy
theorem findIdx_born : ∀ (kv : List (Int × Int)) (a n : Nat), n < kv.length → (entA a kv).findIdx? (fun e => (e.born : Int) == ((a + n : Nat) : Int)) = some n
  | [], _, _, h => by simp at h
  | x :: r, a, 0, _ => by simp [entA, List.findIdx?_cons]
  | x :: r, a, n + 1, h => by
    have ih := findIdx_born r (a + 1) n (by simpa using h)
    rw [show a + 1 + n = a + (n + 1) by omega] at ih
    have h0 : ((a : Int) == ((a + (n + 1) : Nat) : Int)) = false := by rw [beq_eq_false_iff_ne]; omega
    simp only [entA, List.findIdx?_cons, h0, ih]
    rfl
theorem entA_set : ∀ (kv : List (Int × Int)) (a n : Nat) (y : Int × Int) (x : Int), kv[n]? = some y → (entA a kv).modify n (fun e => { e with val := Value.int .i64 x }) = entA a (kv.set n (y.1, x))
  | [], _, _, _, _, h => by simp at h
  | z :: r, a, 0, y, x, h => by simp at h; subst h; rfl
  | z :: r, a, n + 1, y, x, h => by
    have ih := entA_set r (a + 1) n y x (by simpa using h)
    simp only [List.set_cons_succ, entA, List.modify_succ_cons, ih]
theorem entryStore_good (hr : HR A h μ w) {t : TypeId} {m i x : PV} {u y z : Value} {h' : Hp} (hm : VR h μ w (LL A h μ) m u) (hi : VR h μ w (LL A h μ) i y) (hx : VR h μ w (LL A h μ) x z) (he : entryStorePV m i x h = some h') :
    ∃ w' μ', (Instr.entryStore t u y z).run P w = .ok () w' ∧ HR A h' μ' w' ∧ Ext h μ w h' μ' w' := by
  unfold entryStorePV at he
  split at he <;> try (cases he; done)
  rename_i id i x
  split at he <;> try (cases he; done)
  rename_i o ho
  split at he <;> try (cases he; done)
  rename_i hc
  obtain ⟨hz, hg, hlive, h0⟩ := hc
  obtain ⟨kv, hcs, hheap⟩ := hr.map ho hz hg
  rw [hcs, kvP_kvC] at he
  simp only at he
  split at he <;> cases he
  rename_i q hq
  obtain ⟨n, rfl⟩ : ∃ n : Nat, i = n := ⟨i.toNat, by omega⟩
  rw [Int.toNat_natCast] at hq ⊢
  have hval : u = .map (some (μ id)) := by cases hm; rfl
  subst hval
  have hy := int_of hi.tree
  subst hy
  have hzz := int_of hx.tree
  subst hzz
  have hn : n < kv.length := (List.getElem?_eq_some_iff.1 hq).1
  have hidx := findIdx_born kv 0 n hn
  rw [Nat.zero_add] at hidx
  have hmod : (entA 0 kv).toArray.modify n (fun e => { e with val := Value.int .i64 x }) = (entA 0 (kv.set n (q.1, x))).toArray := by
    rw [← entA_set kv 0 n q x hq]; simp
  have hrun : (Instr.entryStore t (.map (some (μ id))) (.int .i64 n) (.int .i64 x)).run P w = .ok () { w with heap := w.heap.setIfInBounds (μ id) (.map (entA 0 (kv.set n (q.1, x))).toArray (kv.set n (q.1, x)).length) } := by
    rw [← hmod, List.length_set]
    simp [Instr.entryStore, MapKept.run_getObj_map hheap, asInt, asIntOf, hidx, MapKept.run_setObj_map _ hheap, Result.andThen]
  obtain ⟨h1, h2⟩ := HR.setS (w' := { w with heap := w.heap.setIfInBounds (μ id) (.map (entA 0 (kv.set n (q.1, x))).toArray (kv.set n (q.1, x)).length) }) hr id o { o with cs := kvC (kv.set n (q.1, x)) } (.map (entA 0 (kv.set n (q.1, x))).toArray (kv.set n (q.1, x)).length) ho hz hlive ⟨hz, (show o.len = 0 from hr.len0 ho hz), rfl, hlive⟩ ⟨rfl, rfl, rfl⟩ (by simp) (fun k hk => setHeap_other hk) (setHeap_self hheap)
    (fun _ => ⟨_, rfl, rfl⟩) (fun hf => by rw [hg] at hf; cases hf)
  exact ⟨_, μ, hrun, h1, h2⟩
theorem kvPut_some {k : Int} (x : Int) : ∀ {kv : List (Int × Int)} {i j : Nat} {v : Int}, kvIdx k i kv = some (j, v) → kvPut k x kv = kv.set (j - i) (k, x)
  | [], _, _, _, h => by simp [kvIdx] at h
  | y :: r, i, j, v, h => by
    simp only [kvIdx] at h
    simp only [kvPut]
    split at h
    · rename_i e
      simp only [Option.some.injEq, Prod.mk.injEq] at h
      rw [if_pos e, ← h.1, Nat.sub_self]; rfl
    · rename_i e
      rw [if_neg e]
      obtain ⟨n, h1, _⟩ := kvIdx_some h
      have ih := kvPut_some x h
      rw [show j - i = (j - (i + 1)) + 1 by omega, List.set_cons_succ, ih]
theorem kvPut_none {k : Int} (x : Int) : ∀ {kv : List (Int × Int)} {i : Nat}, kvIdx k i kv = none → kvPut k x kv = kv ++ [(k, x)]
  | [], _, _ => rfl
  | y :: r, i, h => by
    simp only [kvIdx] at h
    simp only [kvPut]
    split at h
    · cases h
    · rename_i e
      rw [if_neg e, kvPut_none x h]; rfl
theorem lookup_good (hr : HR A h μ w) {t : TypeId} {m k v : PV} {u y : Value} (hm : VR h μ w (LL A h μ) m u) (hk : VR h μ w (LL A h μ) k y) (he : lookupPV P t m k h = some v) :
    ∃ v', (Instr.lookup t u y false).run P w = .ok v' w ∧ VR h μ w (LL A h μ) v v' := by
  unfold lookupPV at he
  split at he <;> try (cases he; done)
  rename_i id k
  split at he <;> try (cases he; done)
  rename_i o ho
  split at he <;> try (cases he; done)
  rename_i hc
  obtain ⟨hz, hg, hb⟩ := hc
  obtain ⟨kv, hcs, hheap⟩ := hr.map ho hz hg
  rw [hcs, kvP_kvC] at he
  simp only at he
  obtain ⟨kt, et, i, hu, hkt, hi, hz0⟩ := mapB_spec hb
  have hval : u = .map (some (μ id)) := by cases hm; rfl
  subst hval
  have hy := int_of hk.tree
  subst hy
  have hfind := findNow_kv 0 k kv 0 0
  cases hx : kvIdx k 0 kv with
  | some q =>
    rw [hx] at he hfind
    simp only [Option.some.injEq] at he
    subst he
    refine ⟨.int .i64 q.2, ?_, .t (.int _ _)⟩
    simp [Instr.lookup, run_underlying hu, MapKept.run_getObj_map hheap, MapKept.run_checkKey hkt (show MapKept.IsKey (.int .i64) (.int .i64 k) from rfl), MapKept.run_findKey hkt hfind, Result.andThen]
  | none =>
    rw [hx] at he hfind
    simp only [Option.some.injEq] at he
    subst he
    refine ⟨.int .i64 0, ?_, .t (.int _ _)⟩
    simp [Instr.lookup, run_underlying hu, MapKept.run_getObj_map hheap, MapKept.run_checkKey hkt (show MapKept.IsKey (.int .i64) (.int .i64 k) from rfl), MapKept.run_findKey hkt hfind, run_zeroInt hi hz0, Result.andThen]
theorem mapUpdate_good (hr : HR A h μ w) {t : TypeId} {m k x : PV} {u y z : Value} {h' : Hp} (hm : VR h μ w (LL A h μ) m u) (hk : VR h μ w (LL A h μ) k y) (hx : VR h μ w (LL A h μ) x z) (he : mapUpdatePV P t m k x h = some h') :
    ∃ w' μ', (Instr.mapUpdate t u y z).run P w = .ok () w' ∧ HR A h' μ' w' ∧ Ext h μ w h' μ' w' := by
  unfold mapUpdatePV at he
  split at he <;> try (cases he; done)
  rename_i id k x
  split at he <;> try (cases he; done)
  rename_i o ho
  split at he <;> try (cases he; done)
  rename_i hc
  obtain ⟨hz, hg, hlive, hb⟩ := hc
  obtain ⟨kv, hcs, hheap⟩ := hr.map ho hz hg
  rw [hcs, kvP_kvC] at he
  simp only [Option.some.injEq] at he
  subst he
  obtain ⟨kt, et, i, hu, hkt, hi, hz0⟩ := mapB_spec hb
  have hval : u = .map (some (μ id)) := by cases hm; rfl
  subst hval
  have hy := int_of hk.tree
  subst hy
  have hzz := int_of hx.tree
  subst hzz
  have hfind := findNow_kv 0 k kv 0 0
  have hrun : (Instr.mapUpdate t (.map (some (μ id))) (.int .i64 k) (.int .i64 x)).run P w = .ok () { w with heap := w.heap.setIfInBounds (μ id) (.map (entA 0 (kvPut k x kv)).toArray (kvPut k x kv).length) } := by
    cases hq : kvIdx k 0 kv with
    | some q =>
      obtain ⟨j, v⟩ := q
      rw [hq] at hfind
      obtain ⟨n, hn, hkn⟩ := kvIdx_some hq
      have hn : j = n := by omega
      subst hn
      have hput : kvPut k x kv = kv.set j (k, x) := kvPut_some x hq
      have hent : (entA 0 kv)[j]? = some ⟨.int .i64 k, .int .i64 v, j⟩ := by rw [entA_get, hkn]; simp
      have hmod : (entA 0 kv).toArray.modify j (fun e => { e with key := Value.int .i64 k, val := Value.int .i64 x }) = (entA 0 (kvPut k x kv)).toArray := by
        rw [hput]
        apply Array.ext_getElem?
        intro i'
        rw [Array.getElem?_modify, List.getElem?_toArray, List.getElem?_toArray, entA_get, entA_get, List.getElem?_set]
        have hjl := (List.getElem?_eq_some_iff.1 hkn).1
        by_cases e : j = i'
        · subst e
          rw [if_pos rfl, if_pos rfl, if_pos hjl, hkn]; simp
        · rw [if_neg e, if_neg e]
      have hlen : (kvPut k x kv).length = kv.length := by rw [hput, List.length_set]
      rw [← hmod, hlen]
      simp [Instr.mapUpdate, run_underlying hu, MapKept.run_getObj_map hheap, MapKept.run_checkKey hkt (show MapKept.IsKey (.int .i64) (.int .i64 k) from rfl), MapKept.run_findKey hkt hfind, hent, MapKept.run_keyThatStays (show MapKept.IsKey (.int .i64) (.int .i64 k) from rfl), MapKept.run_setObj_map _ hheap, Result.andThen]
    | none =>
      rw [hq] at hfind
      have hput := kvPut_none x hq
      have hpush : (entA 0 kv).toArray.push ⟨.int .i64 k, .int .i64 x, kv.length⟩ = (entA 0 (kvPut k x kv)).toArray := by
        rw [hput, entA_snoc]; simp
      have hlen : (kvPut k x kv).length = kv.length + 1 := by rw [hput]; simp
      rw [← hpush, hlen]
      simp [Instr.mapUpdate, run_underlying hu, MapKept.run_getObj_map hheap, MapKept.run_checkKey hkt (show MapKept.IsKey (.int .i64) (.int .i64 k) from rfl), MapKept.run_findKey hkt hfind, MapKept.run_setObj_map _ hheap, Result.andThen]
  obtain ⟨h1, h2⟩ := HR.setS (w' := { w with heap := w.heap.setIfInBounds (μ id) (.map (entA 0 (kvPut k x kv)).toArray (kvPut k x kv).length) }) hr id o { o with cs := kvC (kvPut k x kv) } (.map (entA 0 (kvPut k x kv)).toArray (kvPut k x kv).length) ho hz hlive ⟨hz, (show o.len = 0 from hr.len0 ho hz), rfl, hlive⟩ ⟨rfl, rfl, rfl⟩ (by simp) (fun k hk => setHeap_other hk) (setHeap_self hheap)
    (fun _ => ⟨_, rfl, rfl⟩) (fun hf => by rw [hg] at hf; cases hf)
  exact ⟨_, μ, hrun, h1, h2⟩
theorem entA_nodup : ∀ (kv : List (Int × Int)) (i : Nat), ((entA i kv).map (·.born)).Nodup ∧ ∀ b ∈ (entA i kv).map (·.born), i ≤ b
  | [], i => by simp [entA]
  | x :: r, i => by
    obtain ⟨h1, h2⟩ := entA_nodup r (i + 1)
    simp only [entA, List.map_cons, List.nodup_cons, List.mem_cons]
    exact ⟨⟨fun hm => by have := h2 _ hm; omega, h1⟩, fun b hb => hb.elim (fun e => by omega) (fun hb => by have := h2 b hb; omega)⟩
theorem entry_good (hr : HR A h μ w) {i v : PV} {u : Value} {h' : Hp} (hi : VR h μ w (LL A h μ) i u) (he : entryPV i h = some (v, h')) : ∃ v' w' μ', (Instr.entry u).run P w = .ok v' w' ∧ HR A h' μ' w' ∧ Ext h μ w h' μ' w' ∧ VR h' μ' w' (LL A h' μ') v v' := by
  unfold entryPV at he
  split at he <;> try (cases he; done)
  rename_i id
  split at he <;> try (cases he; done)
  rename_i o ho
  split at he <;> try (cases he; done)
  rename_i m last fl hcs
  split at he <;> try (cases he; done)
  rename_i om hom
  split at he <;> try (cases he; done)
  rename_i hc
  obtain ⟨hz, hg, hmz, hmg, hl0, hlive⟩ := hc
  obtain ⟨kv, hmcs, hheap⟩ := hr.map hom hmz hmg
  rw [hmcs, kvP_kvC] at he
  simp only at he
  split at he <;> try (cases he; done)
  rename_i hlen
  split at he <;> cases he
  rename_i y hy
  have hval : u = .pointer (some ⟨μ id, 0, none⟩) := by cases hi; rfl
  subst hval
  obtain ⟨m', om', last', fs, seen, g1, g2, _, _, g5, g6, g7⟩ := (hr.spec id o ho hz).2.2 hg
  rw [hcs] at g1
  simp only [List.cons.injEq, PV.mp.injEq, PV.t.injEq, Tr.int.injEq, true_and] at g1
  obtain ⟨rfl, rfl, rfl⟩ := g1
  obtain ⟨sn, rfl⟩ := g6 hl0
  have hfl : kv.length = fs.length := by rw [hlen]; simp [flC]
  rw [← hfl] at g5
  have hent : (⟨.int .i64 y.1, .int .i64 y.2, last.toNat⟩ : MapEntry) ∈ (entA 0 kv).toArray.toList := List.mem_of_getElem? (i := last.toNat) (by
    show (entA 0 kv)[last.toNat]? = _
    rw [entA_get, hy]; simp)
  obtain ⟨k1, k2⟩ := HR.setS (w' := w) hr id o { o with cs := .mp m :: .t (.int .i64 (-1)) :: flC fs } (.mapIter (some (μ m)) kv.length (Array.push sn last.toNat) kv.length) ho hz hlive ⟨hz, (show o.len = 0 from hr.len0 ho hz), rfl, hlive⟩ ⟨rfl, rfl, rfl⟩ rfl (fun _ _ => rfl) g5
    (fun hf => by rw [hg] at hf; cases hf) (fun _ => ⟨m, om, -1, fs, Array.push sn last.toNat, rfl, hom, hmz, hmg, by rw [hfl], fun h => by omega, g7⟩)
  refine ⟨_, w, μ, run_entry_at w (μ id) (μ m) kv.length sn _ _ _ g5 hheap hent (entA_nodup kv 0).1, k1, k2, .t (.tup rfl fun i' z hz => ?_)⟩
  match i', hz with
  | 0, hz => simp at hz; subst hz; exact .int _ _
  | 1, hz => simp at hz; subst hz; exact .int _ _
  | n + 2, hz => simp at hz
theorem next_good (hr : HR A h μ w) {id : Id} {u : Value} {sl : Sl} {o : Oper} (hm : VR h μ w (LL A h μ) (.it id) u) (hok : nextOk ⟨sl, h⟩ id) (ty : TypeId) :
    ∃ v' w' μ' s' v h', (Instr.next u false ty).run P w = .ok v' w' ∧ nextTo o ⟨sl, h⟩ id s' ∧ s' = St.put ⟨sl, h'⟩ o.dst v ∧ HR A h' μ' w' ∧ Ext h μ w h' μ' w' ∧ VR h' μ' w' (LL A h' μ') v v' := by
  obtain ⟨ob, m, last, fs, om, kv, ho, hz, hg, hlive, hcs, hom, hmz, hmg, hmcs, hlen⟩ := hok
  simp only at ho hom
  have hval : u = .pointer (some ⟨μ id, 0, none⟩) := by cases hm; rfl
  subst hval
  obtain ⟨kv', e1, hheap⟩ := hr.map hom hmz hmg
  have := kvC_inj (hmcs.symm.trans e1)
  subst this
  obtain ⟨m', om', last', fs', seen, g1, g2, _, _, g5, g6, g7⟩ := (hr.spec id ob ho hz).2.2 hg
  rw [hcs] at g1
  simp only [List.cons.injEq, PV.mp.injEq, PV.t.injEq, Tr.int.injEq, true_and] at g1
  obtain ⟨rfl, rfl, g1⟩ := g1
  have := flC_inj g1
  subst this
  have hold : ∀ x ∈ ((entA 0 kv).toArray).toList, x.born < fs.length := by
    intro x hx
    obtain ⟨j, hj⟩ := List.mem_iff_getElem?.1 (by simpa using hx : x ∈ entA 0 kv)
    rw [entA_get] at hj
    cases hkj : kv[j]? with
    | none => simp [hkj] at hj
    | some y =>
      simp [hkj] at hj
      have := (List.getElem?_eq_some_iff.1 hkj).1
      rw [← hj]; simp only; omega
  rcases run_next_at (P := P) w ty (μ id) (μ m) fs.length fs.length seen _ _ g5 hheap hold (Nat.le_refl _) with ⟨hl0, hrun⟩ | ⟨e, he, w1, hw1, hrun⟩
  · obtain ⟨h1, h2⟩ := HR.setS (w' := w) hr id ob { ob with cs := .mp m :: .t (.int .i64 (-1)) :: flC fs } (.mapIter (some (μ m)) fs.length seen fs.length) ho hz hlive ⟨hz, (show ob.len = 0 from hr.len0 ho hz), rfl, hlive⟩ ⟨rfl, rfl, rfl⟩ rfl (fun _ _ => rfl) g5
      (fun hf => by rw [hg] at hf; cases hf) (fun _ => ⟨m, om, -1, fs, seen, rfl, hom, hmz, hmg, rfl, fun h => by omega, g7⟩)
    refine ⟨_, w, μ, _, .t (.tup [.bool false]), _, hrun, ⟨ob, m, last, fs, om, kv, ho, hcs, hom, hmcs, .inl ⟨?_, rfl⟩⟩, rfl, h1, h2, .t (.tup rfl fun i' y hy => ?_)⟩
    · rw [List.all_eq_true]
      intro b hb
      obtain ⟨j, hj⟩ := List.mem_iff_getElem?.1 hb
      have hjl : j < fs.length := (List.getElem?_eq_some_iff.1 hj).1
      have hseen := g7 j
      have hb2 : fs.getD j false = b := by simp [List.getD, hj]
      rw [hb2] at hseen
      cases b with
      | true => rfl
      | false =>
        exfalso
        obtain ⟨y, hy⟩ : ∃ y, kv[j]? = some y := ⟨kv[j]'(by omega), List.getElem?_eq_getElem (by omega)⟩
        have hmem : (⟨.int .i64 y.1, .int .i64 y.2, j⟩ : MapEntry) ∈ leftOf (entA 0 kv).toArray seen := by
          unfold leftOf
          rw [Array.mem_filter]
          refine ⟨?_, by simpa using hseen⟩
          rw [List.mem_toArray]
          exact List.mem_of_getElem? (i := j) (by rw [entA_get, hy]; simp)
        have := Array.size_pos_of_mem hmem
        omega
    · match i', hy with
      | 0, hy => simp at hy; subst hy; exact .bool _
      | n + 1, hy => simp at hy
  · have hmem : e ∈ leftOf (entA 0 kv).toArray seen := by simpa using he
    unfold leftOf at hmem
    rw [Array.mem_filter, List.mem_toArray] at hmem
    obtain ⟨hm1, hm2⟩ := hmem
    obtain ⟨j, hj⟩ := List.mem_iff_getElem?.1 hm1
    rw [entA_get] at hj
    cases hkj : kv[j]? with
    | none => simp [hkj] at hj
    | some y =>
      simp [hkj] at hj
      subst hj
      simp only at hm2 hrun
      have hjl : j < kv.length := (List.getElem?_eq_some_iff.1 hkj).1
      have hfj : fs[j]? = some false := by
        have hs := g7 j
        have : seen.contains j = false := by simpa using hm2
        rw [this] at hs
        rw [List.getElem?_eq_getElem (by omega)]
        simp [List.getD, show j < fs.length by omega] at hs
        rw [← hs]
      have hst : HR A h μ w1 ∧ Ext h μ w h μ w1 := by
        rcases hw1 with rfl | rfl
        · exact ⟨hr, Ext.refl _ _ _⟩
        · exact Ext.still hr rfl ⟨rfl, rfl, rfl⟩
      obtain ⟨hr1, hx1⟩ := hst
      have hheap1 : w1.heap = w.heap := by rcases hw1 with rfl | rfl <;> rfl
      have hseen : ∀ i', (seen.push j).contains i' = (fs.set j true).getD i' false := by
        intro i'
        have hs := g7 i'
        rw [Array.contains_push, hs]
        simp only [List.getD, List.getElem?_set]
        by_cases e : j = i'
        · subst e
          simp [show j < fs.length by omega]
        · rw [if_neg e]
          have : (i' == j) = false := by simpa using fun h => e h.symm
          simp [this]
      obtain ⟨h1, h2⟩ := HR.setS (w' := ChangeMaps.setBlock w1 (μ id) (.mapIter (some (μ m)) fs.length (seen.push j) kv.length)) hr1 id ob { ob with cs := .mp m :: .t (.int .i64 (j : Nat)) :: flC (fs.set j true) } (.mapIter (some (μ m)) fs.length (seen.push j) kv.length) ho hz hlive ⟨hz, (show ob.len = 0 from hr.len0 ho hz), rfl, hlive⟩ ⟨rfl, rfl, rfl⟩ (by simp [ChangeMaps.setBlock]) (fun k hk => setHeap_other hk) (setHeap_self (by rw [hheap1]; exact g5))
        (fun hf => by rw [hg] at hf; cases hf) (fun _ => ⟨m, om, (j : Int), fs.set j true, seen.push j, rfl, hom, hmz, hmg, by simp [hlen], fun _ => ⟨seen, by simp⟩, hseen⟩)
      · refine ⟨_, _, μ, _, .t (.tup [.bool true, .int .i64 (kv.getD j (0, 0)).1, .int .i64 (kv.getD j (0, 0)).2]), _, hrun, ⟨ob, m, last, fs, om, kv, ho, hcs, hom, hmcs, .inr ⟨j, hfj, rfl⟩⟩, rfl, h1, hx1.trans h2, .t (.tup rfl fun i' z hz => ?_)⟩
        have hyd : kv.getD j (0, 0) = y := by simp [List.getD, hkj]
        rw [hyd] at hz
        match i', hz with
        | 0, hz => simp at hz; subst hz; exact .bool _
        | 1, hz => simp at hz; subst hz; exact .int _ _
        | 2, hz => simp at hz; subst hz; exact .int _ _
        | n + 3, hz => simp at hz
end
end Go.Vm
end
section
namespace Go.Vm
open Go
section
variable {P : Program} {A : Nat → Prop} {μ : Id → Nat} {w : World} {mu : Nat → Bool}
theorem parts_rel {s : St} {a : Act} (hs : ∀ t, VR s.hp μ w (LL A s.hp μ) (s.sl t) (a.tmps.getD t undef)) (parts : Array (Nat × Operand)) :
    (parts.toList.map fun p => (p.1, ev s.sl p.2)).length = (parts.map fun (i, x) => (i, a.eval x)).toList.length ∧
    ∀ (i : Nat) x y, (parts.toList.map fun p => (p.1, ev s.sl p.2))[i]? = some x → (parts.map fun (i, x) => (i, a.eval x)).toList[i]? = some y → x.1 = y.1 ∧ VR s.hp μ w (LL A s.hp μ) x.2 y.2 := by
  refine ⟨by simp, fun i x y hx hy => ?_⟩
  rw [List.getElem?_map] at hx
  simp only [Array.toList_map, List.getElem?_map] at hy
  cases hp : parts.toList[i]? with
  | none => simp [hp] at hx
  | some p =>
    rw [hp] at hx hy
    simp only [Option.map_some, Option.some.injEq] at hx hy
    subst hx; subst hy
    exact ⟨rfl, ev_VR hs p.2⟩
theorem evs_get (sl : Sl) : ∀ (l : List Operand) (i : Nat), (evs sl l)[i]? = (l[i]?).map (ev sl)
  | [], i => by simp [evs]
  | x :: l, 0 => by simp [evs]
  | x :: l, i + 1 => by simpa [evs] using evs_get sl l i
theorem evs_length (sl : Sl) : ∀ (l : List Operand), (evs sl l).length = l.length
  | [] => rfl
  | _ :: l => by simp [evs, evs_length sl l]
def ivalue : PV → Value
  | .t (.int k n) => .int k n
  | _ => undef
theorem min2_good {P : Program} {h : Hp} {p q v : PV} {u u' : Value} (hp : VR h μ w (LL A h μ) p u) (hq : VR h μ w (LL A h μ) q u') (hl : minPV p q = some v) :
    (Builtin.min2 u u').run P w = .ok (ivalue v) w ∧ VR h μ w (LL A h μ) v (ivalue v) := by
  unfold minPV at hl
  split at hl <;> try (simp at hl; done)
  rename_i k x k' y
  split at hl <;> simp at hl
  rename_i hk; subst hk
  subst hl
  have := int_of hp.tree; subst this
  have := int_of hq.tree; subst this
  exact ⟨by simp [Builtin.min2, ivalue], .t (.int _ _)⟩
theorem max2_good {P : Program} {h : Hp} {p q v : PV} {u u' : Value} (hp : VR h μ w (LL A h μ) p u) (hq : VR h μ w (LL A h μ) q u') (hl : maxPV p q = some v) :
    (Builtin.max2 u u').run P w = .ok (ivalue v) w ∧ VR h μ w (LL A h μ) v (ivalue v) := by
  unfold maxPV at hl
  split at hl <;> try (simp at hl; done)
  rename_i k x k' y
  split at hl <;> simp at hl
  rename_i hk; subst hk
  subst hl
  have := int_of hp.tree; subst this
  have := int_of hq.tree; subst this
  exact ⟨by simp [Builtin.max2, ivalue], .t (.int _ _)⟩
theorem evalOp_good {s : St} {a : Act} {o : Oper} {v : PV} {h' : Hp} (hs : ∀ t, VR s.hp μ w (LL A s.hp μ) (s.sl t) (a.tmps.getD t undef)) (hr : HR A s.hp μ w) (he : evalOp P mu o s = some (v, h')) :
    Good A s.hp μ w ((execOp a.eval o).run P w) v h' := by
  have E := fun x => ev_VR hs x
  have quiet : ∀ {v : PV} {v' : Value} {r : Result Next}, r = .ok (.value v') w → VR s.hp μ w (LL A s.hp μ) v v' → Good A s.hp μ w r v s.hp := fun hr' hv => by rw [hr']; exact Good.quiet hr hv
  unfold evalOp at he
  cases hop : o.op <;> simp only [hop] at he <;> try (simp at he; done)
  case move x => cases he; exact quiet (by simp [execOp, hop]) (E x)
  case assign x => cases he; exact quiet (by simp [execOp, hop]) (E x)
  case pick c x y =>
    split at he <;> simp at he
    rename_i b hb
    obtain ⟨rfl, rfl⟩ := he
    have hc := E c
    unfold boolOf at hb
    split at hb <;> simp at hb
    subst hb
    rename_i b hcb
    rw [hcb] at hc
    have hc := bool_of hc.tree
    cases b
    · exact quiet (v' := a.eval y) (by simp [execOp, hop, hc, asBool]) (by simpa using E y)
    · exact quiet (v' := a.eval x) (by simp [execOp, hop, hc, asBool]) (by simpa using E x)
  case alloc t =>
    split at he <;> try (simp at he; done)
    rename_i z hz
    obtain ⟨i, zv, hi, hzv, hzs, hzc⟩ := zero_cells (h := s.hp) (μ := μ) (w := w) hz (LL A s.hp μ)
    obtain ⟨μ', h1, h2, h3⟩ := newVar_good hr (by simp [hzs]) hzc he
    exact ⟨_, _, _, μ', by simp [execOp, hop, Instr.alloc, zeroValue, typeInfo, hi, hzv, newVar, newRow], .inl rfl, h1, h2, h3⟩
  case box t x =>
    have hone : (ev s.sl x).cells.all PV.one = true := by
      unfold newVarPV at he
      split at he <;> try (simp at he; done)
      split at he <;> try (simp at he; done)
      rename_i hc; exact hc.2.2.2
    obtain ⟨h1, h2⟩ := (E x).cells hone
    obtain ⟨μ', g1, g2, g3⟩ := newVar_good hr h1 ⟨by rw [h1]; exact Nat.le_refl _, h2⟩ he
    exact ⟨_, _, _, μ', by simp [execOp, hop, Instr.box, newVar, newRow], .inl rfl, g1, g2, g3⟩
  case build t parts =>
    unfold still at he
    split at he <;> simp at he
    obtain ⟨rfl, rfl⟩ := he
    rename_i v hv
    obtain ⟨hl, hp⟩ := parts_rel hs parts
    obtain ⟨v', h1, h2⟩ := build_good (P := P) hl hp hv
    exact quiet (by simp only [execOp, hop, Sem.run_bind, h1, Result.andThen_ok, Sem.run_pure]) h2
  case buildSlice t len parts =>
    obtain ⟨hl, hp⟩ := parts_rel hs parts
    obtain ⟨v', w', μ', h1, h2, h3, h4⟩ := buildSlice_good (P := P) hr hl hp he
    exact ⟨_, v', w', μ', by simp only [execOp, hop, Sem.run_bind, h1, Result.andThen_ok, Sem.run_pure], .inl rfl, h2, h3, h4⟩
  case load t x =>
    unfold still at he
    split at he <;> simp at he
    obtain ⟨rfl, rfl⟩ := he
    rename_i v hv
    obtain ⟨v', h1, h2⟩ := load_good (P := P) hr (E x) hv
    exact quiet (by simp only [execOp, hop, Sem.run_bind, h1, Result.andThen_ok, Sem.run_pure]) h2
  case store t x y =>
    split at he <;> simp at he
    obtain ⟨rfl, rfl⟩ := he
    rename_i h' hst
    obtain ⟨w', μ', h1, h2, h3⟩ := store_good (P := P) hr (E x) (E y) hst
    exact ⟨_, undef, w', μ', by simp only [execOp, hop, Sem.run_bind, h1, Result.andThen_ok, Sem.run_pure], .inr ⟨rfl, rfl⟩, h2, h3, .skip⟩
  case nilCheck x =>
    have hx := E x
    split at he <;> try (simp at he; done)
    · cases he
      rename_i cs hcs
      rw [hcs] at hx
      have hval : ∃ ad : Addr, a.eval x = .pointer (some ad) := by
        generalize a.eval x = u at hx
        cases hx; exact ⟨_, rfl⟩
      obtain ⟨ad, hval⟩ := hval
      rw [hval] at hx
      exact quiet (by simp [execOp, hop, hval]) hx
    · rename_i id n off hcs
      split at he <;> simp at he
      obtain ⟨rfl, rfl⟩ := he
      rename_i hv
      rw [hcs] at hx
      have hval := hx.ad_val hv
      rw [hval] at hx
      exact quiet (by simp [execOp, hop, hval]) hx
  case binOp op xt x y yt =>
    unfold still at he
    split at he <;> simp at he
    obtain ⟨rfl, rfl⟩ := he
    rename_i v hv
    obtain ⟨v', h1, h2⟩ := bin_good (P := P) (E x) (E y) hv (x := x) (y := y)
    exact quiet (by simp only [execOp, hop]; rw [Sem.run_bind, h1, Result.andThen_ok, Sem.run_pure]) h2
  case unOp op xt x =>
    unfold still at he
    split at he <;> simp at he
    obtain ⟨rfl, rfl⟩ := he
    rename_i v hv
    obtain ⟨v', h1, h2⟩ := un_good (P := P) (E x) hv
    exact quiet (by simp only [execOp, hop, Sem.run_bind, h1, Result.andThen_ok, Sem.run_pure]) h2
  case convert src dst x =>
    unfold still at he
    split at he <;> simp at he
    obtain ⟨rfl, rfl⟩ := he
    rename_i v hv
    obtain ⟨v', h1, h2⟩ := conv_good (P := P) (E x) hv
    exact quiet (by simp only [execOp, hop, Sem.run_bind, h1, Result.andThen_ok, Sem.run_pure]) h2
  case makeFunc fn first captured =>
    cases fn <;> simp only at he <;> try (simp at he; done)
    rename_i f
    split at he <;> simp at he
    rename_i hf
    obtain ⟨rfl, rfl⟩ := he
    have hfe : first.map a.eval = #[] := by
      have : first = #[] := by
        apply Array.ext'
        simpa [List.isEmpty_iff] using hf
      rw [this]; simp
    refine quiet (v' := .func (.func f) #[] (captured.map a.eval)) (by simp [execOp, hop, Instr.makeFunc, hfe]) ?_
    refine VR.mkFn (by rw [evs_length]; simp) fun i x hx => ?_
    rw [evs_get] at hx
    cases hp : captured.toList[i]? with
    | none => simp [hp] at hx
    | some p =>
      rw [hp] at hx
      simp only [Option.map_some, Option.some.injEq] at hx; subst hx
      have hlt : i < captured.size := by
        have := (List.getElem?_eq_some_iff.1 hp).1; simpa using this
      have hp' : captured[i] = p := by
        have := (List.getElem?_eq_some_iff.1 hp).2; simpa using this
      have : (captured.map a.eval).getD i Go.undef = a.eval p := by simp [Array.getD, hlt, hp']
      rw [this]; exact E p
  case makeSlice t n m =>
    obtain ⟨v', w', μ', h1, h2, h3, h4⟩ := makeSlice_good (P := P) hr (E n) (E m) he
    exact ⟨_, v', w', μ', by simp only [execOp, hop, Sem.run_bind, h1, Result.andThen_ok, Sem.run_pure], .inl rfl, h2, h3, h4⟩
  case slice t x lo hi mx =>
    cases mx <;> simp only at he <;> try (simp at he; done)
    obtain ⟨v', w', μ', h1, h2, h3, h4⟩ := slice_good (P := P) hr hs he
    exact ⟨_, v', w', μ', by simp only [execOp, hop, Sem.run_bind, Option.map_none, h1, Result.andThen_ok, Sem.run_pure], .inl rfl, h2, h3, h4⟩
  case fieldAddr st x i =>
    unfold still at he
    split at he <;> simp at he
    obtain ⟨rfl, rfl⟩ := he
    rename_i v hv
    obtain ⟨v', h1, h2⟩ := fieldAddr_good (P := P) (E x) hv
    exact quiet (by simp only [execOp, hop, Sem.run_bind, h1, Result.andThen_ok, Sem.run_pure]) h2
  case field st x i =>
    unfold still at he
    split at he <;> simp at he
    obtain ⟨rfl, rfl⟩ := he
    rename_i v hv
    obtain ⟨v', h1, h2⟩ := field_good (P := P) (E x) hv
    exact quiet (by simp only [execOp, hop, Sem.run_bind, h1, Result.andThen_ok, Sem.run_pure]) h2
  case indexAddr t x i =>
    unfold still at he
    split at he <;> simp at he
    obtain ⟨rfl, rfl⟩ := he
    rename_i v hv
    obtain ⟨v', h1, h2⟩ := indexAddr_good (P := P) (E x) (E i) hv
    exact quiet (by simp only [execOp, hop, Sem.run_bind, h1, Result.andThen_ok, Sem.run_pure]) h2
  case index t x i =>
    unfold still at he
    split at he <;> simp at he
    obtain ⟨rfl, rfl⟩ := he
    rename_i v hv
    obtain ⟨v', h1, h2⟩ := index_good (P := P) (E x) (E i) hv
    exact quiet (by simp only [execOp, hop, Sem.run_bind, h1, Result.andThen_ok, Sem.run_pure]) h2
  case makeMap t r =>
    cases r <;> simp only at he <;> try (simp at he; done)
    obtain ⟨v', w', μ', h1, h2, h3, h4⟩ := makeMap_good (P := P) hr he
    exact ⟨_, v', w', μ', by simp only [execOp, hop, Sem.run_bind, Option.map_none, h1, Result.andThen_ok, Sem.run_pure], .inl rfl, h2, h3, h4⟩
  case mapEntry t m k =>
    obtain ⟨v', w', μ', h1, h2, h3, h4⟩ := mapEntry_good (P := P) hr (E m) (E k) he
    exact ⟨_, v', w', μ', by simp only [execOp, hop, Sem.run_bind, h1, Result.andThen_ok, Sem.run_pure], .inl rfl, h2, h3, h4⟩
  case entryStore t m i x =>
    split at he <;> simp at he
    obtain ⟨rfl, rfl⟩ := he
    rename_i h' hst
    obtain ⟨w', μ', h1, h2, h3⟩ := entryStore_good (P := P) (t := t) hr (E m) (E i) (E x) hst
    exact ⟨_, undef, w', μ', by simp only [execOp, hop, Sem.run_bind, h1, Result.andThen_ok, Sem.run_pure], .inr ⟨rfl, rfl⟩, h2, h3, .skip⟩
  case range t m =>
    obtain ⟨v', w', μ', h1, h2, h3, h4⟩ := range_good (P := P) hr (E m) he
    exact ⟨_, v', w', μ', by simp only [execOp, hop, Sem.run_bind, h1, Result.andThen_ok, Sem.run_pure], .inl rfl, h2, h3, h4⟩
  case lookup t m k c =>
    cases c <;> simp only at he <;> try (simp at he; done)
    unfold still at he
    split at he <;> simp at he
    obtain ⟨rfl, rfl⟩ := he
    rename_i v hv
    obtain ⟨v', h1, h2⟩ := lookup_good (P := P) hr (E m) (E k) hv
    exact quiet (by simp only [execOp, hop, Sem.run_bind, h1, Result.andThen_ok, Sem.run_pure]) h2
  case mapUpdate t m k x =>
    split at he <;> simp at he
    obtain ⟨rfl, rfl⟩ := he
    rename_i h' hst
    obtain ⟨w', μ', h1, h2, h3⟩ := mapUpdate_good (P := P) hr (E m) (E k) (E x) hst
    exact ⟨_, undef, w', μ', by simp only [execOp, hop, Sem.run_bind, h1, Result.andThen_ok, Sem.run_pure], .inr ⟨rfl, rfl⟩, h2, h3, .skip⟩
  case entry i =>
    obtain ⟨v', w', μ', h1, h2, h3, h4⟩ := entry_good (P := P) hr (E i) he
    exact ⟨_, v', w', μ', by simp only [execOp, hop, Sem.run_bind, h1, Result.andThen_ok, Sem.run_pure], .inl rfl, h2, h3, h4⟩
  case extract x i =>
    have hx := E x
    split at he
    · rename_i l hl
      split at he <;> simp at he
      obtain ⟨rfl, rfl⟩ := he
      rename_i y hy
      rw [hl] at hx
      have hval : ∃ vs : Array Value, a.eval x = .tuple vs ∧ l.length = vs.size ∧ Reads w (LL A s.hp μ) y (vs.getD i Go.undef) := by
        generalize a.eval x = u at hx
        have := hx.tree
        cases this with
        | tup hl' hh => exact ⟨_, rfl, hl', hh i y hy⟩
      obtain ⟨vs, hval, hsz, hrd⟩ := hval
      have hlt : i < vs.size := by rw [← hsz]; exact (List.getElem?_eq_some_iff.1 hy).1
      exact quiet (by simp [execOp, hop, hval, Instr.extract, hlt]; rfl) (.t (by simpa [Array.getD, hlt] using hrd))
    · rename_i l hl
      split at he <;> simp at he
      obtain ⟨rfl, rfl⟩ := he
      rename_i y hy
      rw [hl] at hx
      have hval : ∃ vs : Array Value, a.eval x = .tuple vs ∧ l.length = vs.size ∧ VR s.hp μ w (LL A s.hp μ) y (vs.getD i Go.undef) := by
        generalize a.eval x = u at hx
        cases hx with
        | tup hl' hh => exact ⟨_, rfl, hl', hh i y hy⟩
      obtain ⟨vs, hval, hsz, hrd⟩ := hval
      have hlt : i < vs.size := by rw [← hsz]; exact (List.getElem?_eq_some_iff.1 hy).1
      exact quiet (by simp [execOp, hop, hval, Instr.extract, hlt]; rfl) (by simpa [Array.getD, hlt] using hrd)
    · simp at he
  case call c =>
    obtain ⟨callee, args, argTypes⟩ := c
    simp only at he
    split at he
    · -- len
      rename_i x t rest hargs htys
      have ha : args = #[x] := Array.ext' hargs
      have hat : argTypes[0]? = some t := by rw [← Array.getElem?_toList, htys]; rfl
      subst ha
      split at he
      · rename_i hst
        split at he <;> simp at he
        obtain ⟨rfl, rfl⟩ := he
        rename_i b hb
        have hx := E x
        rw [hb] at hx
        have := str_of hx.tree
        exact quiet (by simp [execOp, hop, resolve, invoke, builtin, Builtin.len_, hat, run_underlying (str_under hst), this, goInt]) (.t (.int _ _))
      · split at he <;> try (simp at he; done)
        rename_i hel
        unfold still at he
        split at he <;> simp at he
        obtain ⟨rfl, rfl⟩ := he
        rename_i v hv
        obtain ⟨e, he'⟩ := Option.isSome_iff_exists.1 hel
        obtain ⟨hu, _⟩ := elem_under he'
        have hx := E x
        have hval : ∃ b n c, a.eval x = .slice b n c ∧ v = .t (.int .i64 n) := by
          unfold lenPV at hv
          split at hv <;> simp at hv
          · subst hv
            rename_i l hl
            rw [hl] at hx
            rcases sl_of hx.tree with ⟨_, rfl, h⟩ | ⟨_, b, cap, _, _, h, _⟩
            · exact ⟨_, _, _, h, rfl⟩
            · exact ⟨_, _, _, h, rfl⟩
          · obtain ⟨hv, rfl⟩ := hv
            rename_i hl
            rw [hl] at hx
            obtain ⟨cap, h⟩ := hx.rf_val hv
            exact ⟨_, _, _, h, rfl⟩
        obtain ⟨b, n, c, hval, rfl⟩ := hval
        exact quiet (by simp [execOp, hop, resolve, invoke, builtin, Builtin.len_, hat, run_underlying hu, hval, goInt]) (.t (.int _ _))
    · -- append
      rename_i x y t u hargs htys
      have ha : args = #[x, y] := Array.ext' hargs
      have hat : argTypes = #[t, u] := Array.ext' htys
      subst ha; subst hat
      have hg : ∃ v' w' μ', (Builtin.append_ #[t, u] o.type #[a.eval x, a.eval y]).run P w = .ok v' w' ∧ HR A h' μ' w' ∧ Ext s.hp μ w h' μ' w' ∧ VR h' μ' w' (LL A h' μ') v v' := by
        unfold apArg at he
        split at he
        · rename_i htu; subst htu
          exact append_good (P := P) (ty := o.type) hr (E x) (E y) he
        · exact append_zero (P := P) (ty := o.type) hr (E x) (E y) he
      obtain ⟨v', w', μ', h1, h2, h3, h4⟩ := hg
      exact ⟨_, v', w', μ', by
        simp only [execOp, hop, resolve, invoke, builtin, Sem.run_bind, Sem.run_pure, Result.andThen_ok, List.map_toArray, List.map_cons, List.map_nil, h1], .inl rfl, h2, h3, h4⟩
    · rename_i x y hargs
      have ha : args = #[x, y] := Array.ext' hargs
      subst ha
      unfold still at he
      split at he <;> simp at he
      obtain ⟨rfl, rfl⟩ := he
      rename_i v hv
      obtain ⟨h1, h2⟩ := min2_good (P := P) (E x) (E y) hv
      exact quiet (by simp [execOp, hop, resolve, invoke, builtin, Builtin.min_, h1]) h2
    · rename_i x y hargs
      have ha : args = #[x, y] := Array.ext' hargs
      subst ha
      unfold still at he
      split at he <;> simp at he
      obtain ⟨rfl, rfl⟩ := he
      rename_i v hv
      obtain ⟨h1, h2⟩ := max2_good (P := P) (E x) (E y) hv
      exact quiet (by simp [execOp, hop, resolve, invoke, builtin, Builtin.max_, h1]) h2
    · simp at he
end
end Go.Vm
end
section
namespace Go.Vm
open Go
section
variable {P : Program} {A : Nat → Prop} {mu : Nat → Bool} {h0 : Hp} {μ0 : Id → Nat} {w0 : World} {N : Nat}
structure Rel (A : Nat → Prop) (h0 : Hp) (μ0 : Id → Nat) (w0 : World) (N : Nat) (s : St) (μ : Id → Nat) (a : Act) (w : World) : Prop where
  sz : a.tmps.size = N
  df : a.defers = []
  sl : ∀ t, VR s.hp μ w (LL A s.hp μ) (s.sl t) (a.tmps.getD t undef)
  hp : HR A s.hp μ w
  ext : Ext h0 μ0 w0 s.hp μ w
def okDst (N : Nat) (o : Oper) : Bool := match o.dst with | some d => decide (d < N) | none => true
theorem put_getD (a : Act) (d : Tmp) (v : Value) (t : Nat) (hd : d < a.tmps.size) : (a.put (some d) v).tmps.getD t Go.undef = if t = d then v else a.tmps.getD t Go.undef := by
  have key : ∀ b : Array Value, b.getD t Go.undef = (b[t]?).getD Go.undef := fun b => by simp [Array.getD]; split <;> simp_all
  rw [key, key]
  by_cases ht : t = d
  · subst ht; simp [Act.put, hd]
  · rw [if_neg ht]
    simp only [Act.put]
    rw [Array.getElem?_setIfInBounds_ne (fun e => ht e.symm)]
theorem Rel.step {s : St} {μ μ' : Id → Nat} {a : Act} {w w' : World} {o : Oper} {h' : Hp} {v : PV} {v' : Value} (hr : Rel A h0 μ0 w0 N s μ a w) (hd : okDst N o = true) (hp : HR A h' μ' w') (he : Ext s.hp μ w h' μ' w')
    (hv : VR h' μ' w' (LL A h' μ') v v') : Rel A h0 μ0 w0 N (St.put { s with hp := h' } o.dst v) μ' (a.put o.dst v') w' := by
  have hb := hr.ext.trans he
  cases hdst : o.dst with
  | none => exact ⟨hr.sz, hr.df, fun t => (hr.sl t).ext he, hp, hb⟩
  | some d =>
    simp only [okDst, hdst, decide_eq_true_eq] at hd
    refine ⟨by simp [Act.put, hr.sz], hr.df, fun t => ?_, hp, hb⟩
    simp only [St.put]
    rw [put_getD _ _ _ _ (by rw [hr.sz]; exact hd)]
    by_cases ht : t = d
    · subst ht; rw [if_pos rfl, upd_eq]; exact hv
    · rw [if_neg ht, upd_ne _ _ _ _ ht]; exact (hr.sl t).ext he
theorem mapO_list {h : Hp} {μ : Id → Nat} {w : World} (hr : HR A h μ w) {L' : Nat → Prop} {k : Nat} {l : List PV} {ts : List Tr} {vs : List Value} (hm : mapO (toTr h k) l = some ts) (hl : l.length = vs.length)
    (hv : ∀ (i : Nat) p, l[i]? = some p → VR h μ w (LL A h μ) p (vs.getD i Go.undef)) (hL : ∀ b, L' b → LL A h μ b) (hid : ∀ b, L' b → ∀ id ∈ l.flatMap (reach h k), μ id ≠ b) :
    ReadsL w L' ts vs.toArray := by
  refine ⟨by rw [(mapO_get hm).1, hl]; simp, fun i x hx => ?_⟩
  obtain ⟨p, hp, hpx⟩ := mapO_get' hm i x hx
  rw [list_getD_toArray]
  exact toTr_reads hr k p _ x (hv i p hp) hpx hL (fun b hb id hid' => hid b hb id (List.mem_flatMap.2 ⟨p, List.mem_of_getElem? hp, hid'⟩))
theorem callFunc_run {g : FuncId} (he : Enters P g) (args : Array Value) (w : World) : (callFunc g args).run P w = .ok (.enter g args) w := by
  obtain ⟨fn, h1, h2, h3⟩ := he
  have h2' : fn.name ≠ "runtime.NumGoroutine" := by simpa using h2
  have h3' : fn.body ≠ none := by intro e; rw [e] at h3; cases h3
  simp [callFunc, h1, h2', h3']
theorem callee_VR {s : St} {μ : Id → Nat} {a : Act} {w : World} (hs : ∀ t, VR s.hp μ w (LL A s.hp μ) (s.sl t) (a.tmps.getD t undef)) {f : Operand} {args : List Operand} {g : FuncId} {pvs : List PV}
    (hc : calleeOf s.sl f args = some (g, pvs)) : ∃ caps : Array Value, a.eval f = .func (.func g) #[] caps ∧ pvs.length = (args.map a.eval ++ caps.toList).length ∧ ∀ (i : Nat) p, pvs[i]? = some p → VR s.hp μ w (LL A s.hp μ) p ((args.map a.eval ++ caps.toList).getD i Go.undef) := by
  have hf := ev_VR hs f
  have hargs : ∀ (i : Nat) p, (evs s.sl args)[i]? = some p → VR s.hp μ w (LL A s.hp μ) p ((args.map a.eval).getD i Go.undef) := by
    intro i p hp
    rw [evs_get] at hp
    cases hx : args[i]? with
    | none => simp [hx] at hp
    | some x =>
      rw [hx] at hp
      simp only [Option.map_some, Option.some.injEq] at hp; subst hp
      simp only [List.getD, List.getElem?_map, hx, Option.map_some, Option.getD_some]
      exact ev_VR hs x
  have join : ∀ (caps : List PV) (vs : Array Value), caps.length = vs.size → (∀ (i : Nat) p, caps[i]? = some p → VR s.hp μ w (LL A s.hp μ) p (vs.getD i Go.undef)) →
      (evs s.sl args ++ caps).length = (args.map a.eval ++ vs.toList).length ∧ ∀ (i : Nat) p, (evs s.sl args ++ caps)[i]? = some p → VR s.hp μ w (LL A s.hp μ) p ((args.map a.eval ++ vs.toList).getD i Go.undef) := by
    intro caps vs hl hv
    refine ⟨by simp [evs_length, hl], fun i p hp => ?_⟩
    rw [List.getElem?_append] at hp
    simp only [List.getD]
    split at hp
    · rename_i hi
      rw [evs_length] at hi
      rw [List.getElem?_append_left (by simpa using hi)]
      exact hargs i p hp
    · rename_i hi
      rw [evs_length] at hi hp
      rw [List.getElem?_append_right (by simpa using hi)]
      have := hv _ p hp
      have hlt := (List.getElem?_eq_some_iff.1 hp).1
      simpa [Array.getD, ← hl, hlt] using this
  unfold calleeOf at hc
  split at hc <;> simp at hc
  · rename_i caps he
    obtain ⟨rfl, rfl⟩ := hc
    rw [he] at hf
    have := hf.tree
    generalize hu : a.eval f = u at this
    cases this with
    | @fn _ _ vs hl hh =>
      obtain ⟨h1, h2⟩ := join (caps.map .t) vs (by simpa using hl) (fun i p hp => by
        rw [List.getElem?_map] at hp
        cases hx : caps[i]? with
        | none => simp [hx] at hp
        | some x => simp [hx] at hp; subst hp; exact .t (hh i x hx))
      exact ⟨vs, rfl, h1, h2⟩
  · rename_i caps he
    obtain ⟨rfl, rfl⟩ := hc
    rw [he] at hf
    generalize hu : a.eval f = u at hf
    cases hf with
    | @fn _ _ vs hl hh =>
      obtain ⟨h1, h2⟩ := join caps vs hl hh
      exact ⟨vs, rfl, h1, h2⟩
theorem call_run {a : Act} {o : Oper} {c : Call} {f : Operand} (hop : o.op = .call c) (hc : c.callee = .value f) {g : FuncId} {caps : Array Value} (hf : a.eval f = .func (.func g) #[] caps) (he : Enters P g) (w : World) :
    (execOp a.eval o).run P w = .ok (.enter g (c.args.toList.map a.eval ++ caps.toList).toArray) w := by
  have hargs : #[] ++ c.args.map a.eval ++ caps = (c.args.toList.map a.eval ++ caps.toList).toArray := by
    apply Array.ext'; simp
  simp only [execOp, hop, resolve, hc, hf, Deferred.ofValue, Sem.run_bind, Sem.run_pure, Result.andThen_ok, invoke]
  rw [callFunc_run he, hargs]
theorem callW_good {s : St} {μ : Id → Nat} {a : Act} {w : World} {o : Oper} {c : Call} {f : Operand} {g : FuncId} {pvs : List PV} {dr : Bool} {K : St → Prop} (hr : Rel A h0 μ0 w0 N s μ a w) (hd : okDst N o = true) (hop : o.op = .call c) (hcv : c.callee = .value f)
    (hc : calleeOf s.sl f c.args.toList = some (g, pvs)) (hK : callW P mu dr o s g pvs K) {Q : Exit → Act → World → Prop} :
    o.wp P a w (fun a' w' => ∃ s' μ', K s' ∧ Rel A h0 μ0 w0 N s' μ' a' w') Q := by
  obtain ⟨caps, hf, hlen, hvr⟩ := callee_VR hr.sl hc
  have hlt : ∀ (h : Hp), HR A h μ w → ∀ b, LL A h μ b → b < w.heap.size := by
    intro h hh b hb
    rcases hb with hA | ⟨id, oo, ho, _, rfl⟩
    · exact hh.old b hA
    · exact hh.lt ho
  -- what is left once the call is made in a world whose heap part h2 is ours
  have finish : ∀ (ts : List Tr) (r : Tr) (h2 : Hp) (L' : Nat → Prop), DCall P g ts r → HR A h2 μ w → Ext s.hp μ w h2 μ w → (∀ b, L' b → b < w.heap.size) → ReadsL w L' ts (c.args.toList.map a.eval ++ caps.toList).toArray →
      (∀ w' v, Reads w' L' r v → Reads w' (LL A h2 μ) r v) → K (St.put { s with hp := h2 } o.dst (.t r)) → o.wp P a w (fun a' w' => ∃ s' μ', K s' ∧ Rel A h0 μ0 w0 N s' μ' a' w') Q := by
    intro ts r h2 L' hcall hh2 he2 hL' hrd hres hK2
    have hrun := call_run (P := P) hop hcv hf hcall.1 w
    unfold Oper.wp
    rw [hrun, Oper.upon_enter]
    refine (hcall.2 w L' _ hL' hrd).mono fun e w'' ⟨v, he, hrv, hb⟩ => ?_
    subst he
    obtain ⟨g1, g2⟩ := Ext.grow hh2 hb
    exact ⟨_, μ, hK2, hr.step hd g1 (he2.trans g2) (.t (hres _ _ hrv))⟩
  -- a call that shares the heap
  have shared : ∀ (Q2 : PV → Hp → Prop), ICall P g pvs s.hp Q2 → (∀ v h', Q2 v h' → K (St.put { s with hp := h' } o.dst v)) → o.wp P a w (fun a' w' => ∃ s' μ', K s' ∧ Rel A h0 μ0 w0 N s' μ' a' w') Q := by
    intro Q2 hcall hK2
    have hrun := call_run (P := P) hop hcv hf hcall.1 w
    unfold Oper.wp
    rw [hrun, Oper.upon_enter]
    refine (hcall.2 w A μ _ hr.hp (by simpa using hlen) (fun i p hp => by rw [list_getD_toArray]; exact hvr i p hp)).mono fun e w'' ⟨v, x, h', μ', he, hq, g1, g2, g3⟩ => ?_
    subst he
    exact ⟨_, μ', hK2 _ _ hq, hr.step hd g1 g2 g3⟩
  have frozen : ∀ ts r, mapO (toTr s.hp dep) pvs = some ts → DCall P g ts r → K (St.put { s with hp := frz s.hp (pvs.flatMap (reach s.hp dep)) } o.dst (.t r)) → o.wp P a w (fun a' w' => ∃ s' μ', K s' ∧ Rel A h0 μ0 w0 N s' μ' a' w') Q := by
    intro ts r hm hcall hK
    obtain ⟨g1, g2⟩ := hr.hp.frz (pvs.flatMap (reach s.hp dep))
    refine finish ts r _ (LL A (frz s.hp (pvs.flatMap (reach s.hp dep))) μ) hcall g1 g2 (hlt _ g1) (mapO_list hr.hp hm hlen hvr (fun _ hb => LL_frz _ hb) (fun b hb id hid => ?_)) (fun _ _ h => h) hK
    obtain ⟨p, hp, hid'⟩ := List.mem_flatMap.1 hid
    obtain ⟨i, hi, rfl⟩ := List.mem_iff_getElem.1 hp
    exact frz_out hr.hp hb hid (reach_ex hr.hp _ _ _ (hvr i _ (List.getElem?_eq_getElem hi)) id hid')
  unfold callW at hK
  split at hK
  · rcases hK with ⟨ts, r, htr, hcall, hK⟩ | ⟨_, v, h', hcall, hK⟩ | ⟨_, ts, r, hm, hcall, hsc, hK⟩
    · have := trees_get htr; subst this
      refine finish ts r s.hp (LL A s.hp μ) hcall hr.hp (Ext.refl _ _ _) (hlt _ hr.hp) ⟨by simpa using hlen, fun i x hx => ?_⟩ (fun _ _ h => h) hK
      rw [list_getD_toArray]
      exact (hvr i (.t x) (by rw [List.getElem?_map, hx]; rfl)).tree
    · rcases hcall.1 with hc1 | ⟨ts, r, hm, hc1, rfl, rfl⟩
      · exact shared _ hc1 (fun v' h'' ⟨e1, e2⟩ => by rw [e1, e2]; exact hK)
      · exact frozen ts r hm hc1 hK
    · exact finish ts r s.hp (fun _ => False) hcall hr.hp (Ext.refl _ _ _) (fun _ h => h.elim) (mapO_list hr.hp hm hlen hvr (fun _ h => h.elim) (fun _ h => h.elim)) (fun w' v h => h.scalar hsc) hK
  · rcases hK with ⟨ts, r, hm, hcall, hK⟩ | hcall
    · split at hK
      · rename_i hsc
        exact finish ts r s.hp (fun _ => False) hcall hr.hp (Ext.refl _ _ _) (fun _ h => h.elim) (mapO_list hr.hp hm hlen hvr (fun _ h => h.elim) (fun _ h => h.elim)) (fun w' v h => h.scalar hsc) hK
      · exact frozen ts r hm hcall hK
    · exact shared _ hcall (fun _ _ h => h)
theorem nextW_good {s : St} {μ : Id → Nat} {a : Act} {w : World} {o : Oper} {dr : Bool} {p : PV} {K : St → Prop} (hr : Rel A h0 μ0 w0 N s μ a w) (hd : okDst N o = true) (hp : nextPart s.sl o = some p) (hK : nextW dr o s p K) {Q : Exit → Act → World → Prop} :
    o.wp P a w (fun a' w' => ∃ s' μ', K s' ∧ Rel A h0 μ0 w0 N s' μ' a' w') Q := by
  unfold nextPart at hp
  split at hp <;> cases hp
  rename_i x hop
  unfold nextW at hK
  split at hK
  · rename_i id hx
    obtain ⟨_, hok, hall⟩ := hK
    have hv := ev_VR hr.sl x
    rw [hx] at hv
    obtain ⟨v', w', μ', s', v, h', h1, h2, h3, h4, h5, h6⟩ := next_good (P := P) (o := o) (sl := s.sl) hr.hp hv hok o.type
    unfold Oper.wp
    have hrun : (execOp a.eval o).run P w = .ok (.value v') w' := by simp only [execOp, hop, Sem.run_bind, h1, Result.andThen_ok, Sem.run_pure]
    rw [hrun, Oper.upon_value]
    refine ⟨s', μ', hall s' h2, ?_⟩
    rw [h3]
    exact hr.step hd h4 h5 h6
  · exact hK.elim
theorem opW_good {s : St} {μ : Id → Nat} {a : Act} {w : World} {o : Oper} {dr : Bool} {K : St → Prop} (hr : Rel A h0 μ0 w0 N s μ a w) (hd : okDst N o = true) (hK : opW P mu dr o s K) {Q : Exit → Act → World → Prop} :
    o.wp P a w (fun a' w' => ∃ s' μ', K s' ∧ Rel A h0 μ0 w0 N s' μ' a' w') Q := by
  have plain : plainW P mu dr o s K → o.wp P a w (fun a' w' => ∃ s' μ', K s' ∧ Rel A h0 μ0 w0 N s' μ' a' w') Q := by
    intro hh
    unfold plainW at hh
    cases hnp : nextPart s.sl o with
    | some p =>
      rw [hnp] at hh
      exact nextW_good hr hd hnp hh
    | none =>
    rw [hnp] at hh
    have hh := hh.2
    split at hh
    · rename_i v h' he
      obtain ⟨nx, v', w', μ', h1, h2, h3, h4, h5⟩ := evalOp_good (P := P) hr.sl hr.hp he
      unfold Oper.wp
      rw [h1]
      rcases h2 with rfl | ⟨rfl, rfl⟩
      · rw [Oper.upon_value]; exact ⟨_, μ', hh, hr.step hd h3 h4 h5⟩
      · rw [Oper.upon_skip]; exact ⟨_, μ', hh, hr.step hd h3 h4 h5⟩
    · exact hh.elim
  unfold opW at hK
  cases hcp : callPart s.sl o with
  | none => rw [hcp] at hK; exact plain hK
  | some q =>
    rw [hcp] at hK
    cases q with
    | none => exact hK.elim
    | some q =>
      obtain ⟨g, pvs⟩ := q
      unfold callPart at hcp
      split at hcp <;> try (simp at hcp; done)
      rename_i c hop
      split at hcp <;> try (simp at hcp; done)
      rename_i f hcv
      exact callW_good hr hd hop hcv (Option.some.inj hcp) hK
theorem opG_good {ops : Array Oper} {s : St} {μ : Id → Nat} {a : Act} {w : World} {i : Nat} {o : Oper} {dr : Bool} {K : St → Prop} (hi : ops[i]? = some o) (hr : Rel A h0 μ0 w0 N s μ a w) (hd : ∀ o ∈ ops.toList, okDst N o = true) (hK : opG P mu dr ops.toList o s K) {Q : Exit → Act → World → Prop} :
    wpOp P ops Q i (fun a' w' => ∃ s' μ', K s' ∧ Rel A h0 μ0 w0 N s' μ' a' w') a w := by
  have hdo : okDst N o = true := hd o (by
    have := Array.mem_of_getElem? hi
    exact Array.mem_toList_iff.2 this)
  have skip : Rel A h0 μ0 w0 N (St.put s o.dst .skip) μ (a.put o.dst undef) w := by
    have := hr.step (h' := s.hp) (v := .skip) (v' := undef) hdo hr.hp (Ext.refl _ _ _) .skip
    exact this
  unfold wpOp
  simp only [hi]
  unfold opG at hK
  cases hgr : guardRun ops.toList s.sl o with
  | none => rw [hgr] at hK; exact hK.elim
  | some r =>
    rw [hgr] at hK
    have hw : Region.wanted o (yielded ops a.tmps) = r := by
      unfold guardRun at hgr
      split at hgr
      · rename_i hg
        cases hgr
        simp [Region.wanted, hg]
      · rename_i j want hg
        unfold guardPV at hgr
        cases hj : ops[j]? with
        | none => rw [← Array.getElem?_toList] at hj; simp [hj] at hgr
        | some oj =>
          rw [← Array.getElem?_toList] at hj
          simp only [hj] at hgr
          rw [Array.getElem?_toList] at hj
          cases hdj : oj.dst with
          | none => simp [hdj] at hgr
          | some d =>
            simp only [hdj] at hgr
            have hlt : d < a.tmps.size := by
              have := hd oj (Array.mem_toList_iff.2 (Array.mem_of_getElem? hj))
              simp only [okDst, hdj, decide_eq_true_eq] at this
              rw [hr.sz]; exact this
            have hy' : yielded ops a.tmps j = (match a.tmps.getD d Go.undef with | .bool b => some b | _ => none) := by
              simp only [yielded, hj, Option.bind_some, hdj]
              have e : a.tmps.getD d Go.undef = a.tmps[d] := by simp [Array.getD, hlt]
              rw [Array.getElem?_eq_getElem hlt, e]
              generalize a.tmps[d] = u
              cases u <;> rfl
            have hsl := hr.sl d
            split at hgr <;> simp at hgr
            · rename_i b heq
              split at heq <;> simp at heq
              subst heq
              rename_i b hb
              rw [hb] at hsl
              have hv := bool_of hsl.tree
              rw [hv] at hy'
              subst hgr
              simp [Region.wanted, hg, hy']
            · rename_i heq
              split at heq <;> simp at heq
              rename_i hb
              rw [hb] at hsl
              have hv : a.tmps.getD d Go.undef = Go.undef := by
                generalize a.tmps.getD d Go.undef = u at hsl
                cases hsl; rfl
              rw [hv] at hy'
              subst hgr
              simp [Region.wanted, hg, hy', Go.undef]
    cases r with
    | true => rw [if_pos hw]; exact .inl (opW_good hr hdo (hK.1 rfl))
    | false => rw [if_neg (by rw [hw]; simp)]; exact ⟨_, μ, hK.2 rfl, skip⟩
theorem opsW_list {ops : Array Oper} (hd : ∀ o ∈ ops.toList, okDst N o = true) {dr : Bool} {Q : Exit → Act → World → Prop} {K : St → Prop} : ∀ (l : List Nat) (ol : List Oper) (s : St) (μ : Id → Nat) (a : Act) (w : World),
    l.length = ol.length → (∀ (k : Nat) i o, l[k]? = some i → ol[k]? = some o → ops[i]? = some o) → Rel A h0 μ0 w0 N s μ a w → opsW P mu dr ops.toList ol s K → (∀ s' μ' a' w', K s' → Rel A h0 μ0 w0 N s' μ' a' w' → Q .normal a' w') →
    wpOps P ops Q l a w := by
  intro l
  induction l with
  | nil =>
    intro ol s μ a w hl _ hr hK hQ
    have : ol = [] := List.eq_nil_of_length_eq_zero (by simpa using hl.symm)
    subst this
    simp only [wpOps]
    exact hQ s μ a w hK hr
  | cons i l ih =>
    intro ol s μ a w hl hi hr hK hQ
    cases ol with
    | nil => simp at hl
    | cons o ol =>
      rw [wpOps_cons]
      simp only [opsW] at hK
      refine wpOp_mono (fun a' w' ⟨s', μ', hK', hr'⟩ => ?_) (opG_good (hi 0 i o rfl rfl) hr hd hK)
      exact ih ol s' μ' a' w' (by simpa using hl) (fun k i o h1 h2 => hi (k + 1) i o (by simpa using h1) (by simpa using h2)) hr' hK' hQ
end
end Go.Vm
end
section
namespace Go.Vm
open Go
def hfree (a b : Nat) : Bool := a == 0 || b == 0 || (a == 1 && b == 1) || (a == 1 && b == 2) || (a == 2 && b == 2)
def hsite : Option Nat → Option Nat → Bool
  | some a, some b => a != b
  | _, _ => false
def localRead (o : Oper) : Bool := match o.op with
  | .load .. | .nilCheck _ | .fieldAddr .. | .indexAddr .. => true
  | _ => false
def lenRead (mu : Nat → Bool) (o : Oper) : Bool := match o.op with
  | .call c => (match c.callee, c.args.toList with
    | .builtin .len, [_] => lenM mu o.dst
    | _, _ => false)
  | _ => false
def nearO (mu : Nat → Bool) (o : Oper) : Bool := match o.op with
  | .load _ x | .nilCheck x | .fieldAddr _ x _ | .indexAddr _ x _ => nearM mu x
  | _ => false
def farRead (mu : Nat → Bool) (o : Oper) : Bool := localRead o && !nearO mu o
def lenFree (mu : Nat → Bool) (x y : Oper) : Bool := hkind mu x == 2 && mu 8999999 && (match x.dst with | some d => mu (8000000 + d) | none => false) && lenRead mu y
def apFree (mu : Nat → Bool) (x y : Oper) : Bool := (hkind mu x == 4 && mu 3999999 && ((hkind mu y == 1 && farRead mu y) || (hkind mu y == 2 && !resB mu y.dst))) || (hkind mu x == 2 && mu 3999999 && resB mu x.dst && hkind mu y == 1 && farRead mu y)
def callB (o : Oper) : Bool := match o.op with
  | .call c => (match c.callee with | .value _ => true | _ => false)
  | _ => false
def callU (mu : Nat → Bool) (o : Oper) : Bool := match o.op with
  | .call c => (match c.callee with | .value (.func g) => !mu (11000000 + g) | _ => false)
  | _ => false
theorem callU_spec {mu : Nat → Bool} {o : Oper} (h : callU mu o = true) (sl : Sl) : ∃ g args, callPart sl o = some (some (g, args)) ∧ mu (11000000 + g) = false := by
  unfold callU at h
  split at h <;> try (cases h; done)
  rename_i c hop
  split at h <;> try (cases h; done)
  rename_i g hcf
  refine ⟨g, evs sl c.args.toList ++ [], ?_, by simpa using h⟩
  unfold callPart
  rw [hop]
  simp only [hcf]
  rfl
def exFree (mu : Nat → Bool) (x y : Oper) : Bool := callU mu x && hkind mu x == 3 && mu 4999999 && hkind mu y == 2 && (match y.dst with | some c => mu (5000000 + c) | none => false)
def loadB (o : Oper) : Bool := match o.op with
  | .load .. => true
  | _ => false
def kpFree (mu : Nat → Bool) (x y : Oper) : Bool := callU mu x && mu 4999999 && loadB y && (match home mu y with | some d => mu (10000000 + d) | none => false)
def sliceB (o : Oper) : Bool := match o.op with
  | .slice .. => true
  | _ => false
def frFree (x y : Oper) : Bool := (sliceB x && localRead y) || (localRead x && sliceB y)
def indepB (mu : Nat → Bool) (ops : Array Oper) (x y : Oper) : Bool := x.apart ops y && (hfree (hkind mu x) (hkind mu y) || hsite (home mu x) (home mu y) || apFree mu x y || exFree mu x y || frFree x y || lenFree mu x y || kpFree mu x y)
def preds (ops : List Oper) : List Nat :=
  ops.foldl (fun acc o => acc ++ [o.after.toList.foldl (fun s e => if Region.binds .any e then s ||| 2 ^ e.on ||| acc.getD e.on 0 else s) 0]) []
def drawOK (mu : Nat → Bool) (ops : Array Oper) : Bool :=
  let l := ops.toList
  let ps := preds l
  (ps.length == l.length) && l.zipIdx.all fun (oj, j) => oj.after.toList.all (fun e => !Region.binds .any e || decide (e.on < j)) &&
    (l.take j).zipIdx.all fun (oi, i) => (ps.getD j 0).testBit i || indepB mu ops oi oj
def codeOK (mu : Nat → Bool) (N : Nat) : Code → Bool
  | .region _ ops dr => ops.toList.all (okDst N) && (!dr || (drawOK mu ops && Region.noSelect ops))
  | .seq a b => codeOK mu N a && codeOK mu N b
  | .cond _ a b => codeOK mu N a && codeOK mu N b
  | .block _ b => codeOK mu N b
  | .loop b => codeOK mu N b
  | .skip | .ret | .exit _ => true
  | _ => false
set_option linter.unusedSimpArgs false
section
variable {P : Program} {mu : Nat → Bool}
def OutCall (P : Program) (mu : Nat → Bool) (o : Oper) (s : St) (g : FuncId) (args : List PV) (v : PV) (h' : Hp) : Prop := (∃ ts r, trees args = some ts ∧ DCall P g ts r ∧ v = .t r ∧ h' = s.hp) ∨ (fatB mu o.dst = true ∧ ExactU P mu g args s.hp v h') ∨ (rdB mu o.dst = true ∧ ∃ ts r, mapO (toTr s.hp dep) args = some ts ∧ DCall P g ts r ∧ r.scalar = true ∧ v = .t r ∧ h' = s.hp)
def OutPlain (P : Program) (mu : Nat → Bool) (o : Oper) (s : St) (v : PV) (h' : Hp) : Prop := bare mu o s.sl = true ∧ evalOp P mu o s = some (v, h')
def OutW (P : Program) (mu : Nat → Bool) (o : Oper) (s : St) (v : PV) (h' : Hp) : Prop :=
  match callPart s.sl o with
  | some (some (g, args)) => OutCall P mu o s g args v h'
  | some none => False
  | none => OutPlain P mu o s v h'
def Out (P : Program) (mu : Nat → Bool) (all : List Oper) (o : Oper) (s : St) (v : PV) (h' : Hp) : Prop :=
  (guardRun all s.sl o = some true ∧ OutW P mu o s v h') ∨ (guardRun all s.sl o = some false ∧ v = .skip ∧ h' = s.hp)
def Step (P : Program) (mu : Nat → Bool) (all : List Oper) (o : Oper) (s s' : St) : Prop := ∃ v h', Out P mu all o s v h' ∧ s' = St.put { s with hp := h' } o.dst v
theorem opW_out {o : Oper} {s : St} {K : St → Prop} : opW P mu true o s K ↔ ∃ v h', OutW P mu o s v h' ∧ K (St.put { s with hp := h' } o.dst v) := by
  have plain : plainW P mu true o s K ↔ ∃ v h', OutPlain P mu o s v h' ∧ K (St.put { s with hp := h' } o.dst v) := by
    unfold plainW OutPlain
    cases hnp : nextPart s.sl o with
    | some p =>
      have he : evalOp P mu o s = none := by
        unfold nextPart at hnp
        split at hnp
        · rename_i x hop; unfold evalOp; simp only [hop]
        · cases hnp
      simp only
      constructor
      · intro hh
        unfold nextW at hh
        split at hh
        · exact absurd hh.1 (by simp)
        · exact hh.elim
      · rintro ⟨v, h', ⟨_, hh⟩, _⟩
        rw [he] at hh; cases hh
    | none =>
    simp only
    constructor
    · rintro ⟨hb, he⟩
      split at he
      · rename_i v h' hh; exact ⟨v, h', ⟨hb trivial, hh⟩, he⟩
      · exact he.elim
    · rintro ⟨v, h', ⟨hb, hh⟩, hK⟩
      refine ⟨fun _ => hb, ?_⟩
      rw [hh]; exact hK
  unfold opW OutW
  cases callPart s.sl o with
  | none => exact plain
  | some q =>
    cases q with
    | none => simp
    | some q =>
      obtain ⟨g, args⟩ := q
      simp only
      unfold callW OutCall
      simp only [if_true]
      constructor
      · rintro (⟨ts, r, h1, h2, h3⟩ | ⟨h0, v, h', h1, h2⟩ | ⟨h0, ts, r, h1, h2, h4, h3⟩)
        · exact ⟨_, _, .inl ⟨ts, r, h1, h2, rfl, rfl⟩, h3⟩
        · exact ⟨_, _, .inr (.inl ⟨h0, h1⟩), h2⟩
        · exact ⟨_, _, .inr (.inr ⟨h0, ts, r, h1, h2, h4, rfl, rfl⟩), h3⟩
      · rintro ⟨v, h', ⟨ts, r, h1, h2, rfl, rfl⟩ | ⟨h0, h1⟩ | ⟨h0, ts, r, h1, h2, h4, rfl, rfl⟩, h3⟩
        · exact .inl ⟨ts, r, h1, h2, h3⟩
        · exact .inr (.inl ⟨h0, v, h', h1, h3⟩)
        · exact .inr (.inr ⟨h0, ts, r, h1, h2, h4, h3⟩)
theorem opG_step {all : List Oper} {o : Oper} {s : St} {K : St → Prop} : opG P mu true all o s K ↔ ∃ s', Step P mu all o s s' ∧ K s' := by
  have key : opG P mu true all o s K ↔ ∃ v h', Out P mu all o s v h' ∧ K (St.put { s with hp := h' } o.dst v) := by
    unfold opG Out
    cases guardRun all s.sl o with
    | none => simp
    | some r =>
      cases r with
      | true =>
        simp only [true_implies, Bool.true_eq_false, false_implies, and_true, Option.some.injEq, true_and, false_and, or_false]
        exact opW_out
      | false =>
        simp only [Bool.false_eq_true, false_implies, true_implies, true_and, Option.some.injEq, false_and, false_or]
        constructor
        · intro h; exact ⟨_, _, ⟨rfl, rfl⟩, h⟩
        · rintro ⟨_, _, ⟨rfl, rfl⟩, h⟩; exact h
  rw [key]
  constructor
  · rintro ⟨v, h', h1, h2⟩; exact ⟨_, ⟨v, h', h1, rfl⟩, h2⟩
  · rintro ⟨_, ⟨v, h', h1, rfl⟩, h2⟩; exact ⟨v, h', h1, h2⟩
def Steps (P : Program) (mu : Nat → Bool) (all : List Oper) : List Oper → St → St → Prop
  | [], s, s' => s' = s
  | o :: r, s, s' => ∃ s1, Step P mu all o s s1 ∧ Steps P mu all r s1 s'
theorem opsW_steps {all : List Oper} {K : St → Prop} : ∀ (l : List Oper) (s : St), opsW P mu true all l s K ↔ ∃ s', Steps P mu all l s s' ∧ K s'
  | [], s => by simp [opsW, Steps]
  | o :: r, s => by
    simp only [opsW, Steps, opG_step]
    constructor
    · rintro ⟨s1, h1, h2⟩
      obtain ⟨s', h3, h4⟩ := (opsW_steps r s1).1 h2
      exact ⟨s', ⟨s1, h1, h3⟩, h4⟩
    · rintro ⟨s', ⟨s1, h1, h3⟩, h4⟩
      exact ⟨s1, h1, (opsW_steps r s1).2 ⟨s', h3, h4⟩⟩
def SameAt (ops : Array Oper) (o : Oper) (a b : Sl) : Prop := ∀ t ∈ o.looksAt ops, a t = b t
theorem SameAt.ev {ops : Array Oper} {o : Oper} {a b : Sl} (h : SameAt ops o a b) (x : Operand) (hx : x ∈ o.op.operands) : ev a x = ev b x := by
  cases x with
  | tmp t =>
    refine h t (List.mem_append_left _ (List.mem_filterMap.2 ⟨.tmp t, by simpa using hx, rfl⟩))
  | _ => rfl
theorem evs_congr {a b : Sl} : ∀ (l : List Operand), (∀ x ∈ l, ev a x = ev b x) → evs a l = evs b l
  | [], _ => rfl
  | x :: l, h => by simp only [evs]; rw [h x (by simp), evs_congr l (fun y hy => h y (by simp [hy]))]
theorem evalOp_congr {ops : Array Oper} {o : Oper} {a b : Sl} {h : Hp} (hs : SameAt ops o a b) : evalOp P mu o ⟨a, h⟩ = evalOp P mu o ⟨b, h⟩ := by
  have E := hs.ev
  have parts : ∀ ps : Array (Nat × Operand), (∀ x ∈ (ps.toList.map (·.2)).toArray, ev a x = ev b x) → (ps.toList.map fun p => (p.1, ev a p.2)) = (ps.toList.map fun p => (p.1, ev b p.2)) := by
    intro ps hp
    apply List.map_congr_left
    intro p hm
    rw [hp p.2 (by simp only [List.mem_toArray, List.mem_map]; exact ⟨p, hm, rfl⟩)]
  unfold evalOp
  cases hop : o.op <;> simp only <;> (try rfl) <;> rw [hop] at E <;> simp only [Op.operands] at E
  case move x => rw [E x (by simp)]
  case assign x => rw [E x (by simp)]
  case pick c x y => rw [E c (by simp), E x (by simp), E y (by simp)]
  case box t x => rw [E x (by simp)]
  case build t ps => rw [parts ps E]
  case buildSlice t n ps => rw [parts ps E]
  case load t x => rw [E x (by simp)]
  case store t x y => rw [E x (by simp), E y (by simp)]
  case nilCheck x => rw [E x (by simp)]
  case binOp op xt x y yt => rw [E x (by simp), E y (by simp)]
  case unOp op xt x => rw [E x (by simp)]
  case convert s d x => rw [E x (by simp)]
  case makeFunc fn first captured =>
    cases fn <;> simp only
    rw [evs_congr captured.toList (fun x hx => E x (by simp; exact .inr (by simpa using hx)))]
  case makeSlice t n m => rw [E n (by simp), E m (by simp)]
  case slice t x lo hi mx =>
    cases mx <;> simp only
    have hlo : lo.map (ev a) = lo.map (ev b) := by cases lo <;> simp; exact E _ (by simp)
    have hhi : hi.map (ev a) = hi.map (ev b) := by cases hi <;> simp; exact E _ (by simp)
    rw [E x (by simp), hlo, hhi]
  case fieldAddr t x i => rw [E x (by simp)]
  case field t x i => rw [E x (by simp)]
  case indexAddr t x i => rw [E x (by simp), E i (by simp)]
  case index t x i => rw [E x (by simp), E i (by simp)]
  case lookup t m k c => cases c <;> simp only; rw [E m (by simp), E k (by simp)]
  case mapUpdate t m k x => rw [E m (by simp), E k (by simp), E x (by simp)]
  case entry i => rw [E i (by simp)]
  case makeMap t r => cases r <;> rfl
  case mapEntry t m k => rw [E m (by simp), E k (by simp)]
  case entryStore t m i x => rw [E m (by simp), E i (by simp), E x (by simp)]
  case range t m => rw [E m (by simp)]
  case extract x i => rw [E x (by simp)]
  case call c =>
    have hargs : ∀ x ∈ c.args.toList, ev a x = ev b x := fun x hx => E x (by simp only [Call.operands]; exact Array.mem_append.2 (.inr (by simpa using hx)))
    split
    · rename_i x t rest _ hc _; rw [hargs x (by rw [hc]; simp)]
    · rename_i x y t u _ hc _; rw [hargs x (by rw [hc]; simp), hargs y (by rw [hc]; simp)]
    · rename_i x y _ hc; rw [hargs x (by rw [hc]; simp), hargs y (by rw [hc]; simp)]
    · rename_i x y _ hc; rw [hargs x (by rw [hc]; simp), hargs y (by rw [hc]; simp)]
    · rfl
theorem guardRun_congr {ops : Array Oper} {o : Oper} {a b : Sl} (hs : SameAt ops o a b) : guardRun ops.toList a o = guardRun ops.toList b o := by
  unfold guardRun
  cases hg : o.guard with
  | none => rfl
  | some q =>
    obtain ⟨j, want⟩ := q
    simp only
    have : guardPV ops.toList a j = guardPV ops.toList b j := by
      unfold guardPV
      rw [Array.getElem?_toList]
      cases hj : ops[j]? with
      | none => rfl
      | some oj =>
        simp only
        cases hd : oj.dst with
        | none => rfl
        | some d => simp only; rw [hs d (List.mem_append_right _ (by simp [hg, hj, hd]))]
    rw [this]
theorem callPart_congr {ops : Array Oper} {o : Oper} {a b : Sl} (hs : SameAt ops o a b) : callPart a o = callPart b o := by
  unfold callPart
  cases hop : o.op <;> simp only
  rename_i c
  cases hc : c.callee <;> simp only
  rename_i f
  have E := hs.ev
  rw [hop] at E
  simp only [Op.operands, Call.operands, hc] at E
  have h1 : ev a f = ev b f := E f (by simp)
  have h2 : evs a c.args.toList = evs b c.args.toList := evs_congr _ (fun x hx => E x (by simp; exact .inr (by simpa using hx)))
  unfold calleeOf
  rw [h1, h2]
theorem home_looks {ops : Array Oper} {o : Oper} {d : Nat} (hd : home mu o = some d) {a b : Sl} (hs : SameAt ops o a b) : a d = b d := by
  have E := hs.ev
  unfold home at hd
  have key : ∀ x : Operand, x ∈ o.op.operands → homeX mu x = some d → a d = b d := by
    intro x hx hh
    unfold homeX at hh
    split at hh <;> try (simp at hh; done)
    split at hh <;> simp at hh
    subst hh
    exact E _ hx
  cases hop : o.op <;> simp only [hop] at hd <;> (try (simp at hd; done)) <;> rw [hop] at key <;> simp only [Op.operands] at key
  case load t x => exact key x (by simp) hd
  case store t x y => exact key x (by simp) hd
theorem homed_congr {ops : Array Oper} {o : Oper} {a b : Sl} (hs : SameAt ops o a b) : homed mu o a = homed mu o b := by
  unfold homed
  cases hd : home mu o with
  | none => rfl
  | some d => simp only; rw [home_looks hd hs]
theorem bare_congr {ops : Array Oper} {o : Oper} {a b : Sl} (hs : SameAt ops o a b) : bare mu o a = bare mu o b := by
  have E := hs.ev
  unfold bare
  rw [homed_congr hs]
  have haw : awayO mu o a = awayO mu o b := by
    unfold awayO
    cases hop : o.op <;> simp only <;> (try rfl) <;> rw [hop] at E <;> simp only [Op.operands] at E
    case load t x => rw [E x (by simp)]
    case nilCheck x => rw [E x (by simp)]
    case fieldAddr t x i => rw [E x (by simp)]
    case indexAddr t x i => rw [E x (by simp)]
    case call c =>
      split
      · rename_i x y _ hc
        have hm : ∀ z ∈ c.args.toList, ev a z = ev b z := fun z hz => E z (by simp only [Call.operands]; exact Array.mem_append.2 (.inr (by simpa using hz)))
        rw [hm x (by rw [hc]; simp), hm y (by rw [hc]; simp)]
      · rename_i x _ hc
        have hm : ∀ z ∈ c.args.toList, ev a z = ev b z := fun z hz => E z (by simp only [Call.operands]; exact Array.mem_append.2 (.inr (by simpa using hz)))
        rw [hm x (by rw [hc]; simp)]
      · rfl
  rw [haw]
  congr 1
  unfold bare0
  cases hop : o.op <;> simp only <;> (try rfl) <;> rw [hop] at E <;> simp only [Op.operands] at E
  case load t x => rw [E x (by simp)]
  case nilCheck x => rw [E x (by simp)]
  case fieldAddr t x i => rw [E x (by simp)]
  case indexAddr t x i => rw [E x (by simp)]
  case binOp op xt x y yt => rw [E x (by simp), E y (by simp)]
  case slice t x lo hi mx => rw [E x (by simp)]
  case call c =>
    split
    · rename_i x _ hc
      rw [E x (by simp only [Call.operands]; exact Array.mem_append.2 (.inr (by rw [← Array.mem_toList_iff, hc]; simp)))]
    · rfl
theorem Out.congr {ops : Array Oper} {o : Oper} {s s2 : St} {v : PV} {h' : Hp} (h : Out P mu ops.toList o s v h') (hs : SameAt ops o s.sl s2.sl) (hh : s2.hp = s.hp) : Out P mu ops.toList o s2 v h' := by
  rcases h with ⟨h1, h2⟩ | ⟨h1, h2, h3⟩
  · refine .inl ⟨(guardRun_congr hs) ▸ h1, ?_⟩
    unfold OutW at h2 ⊢
    rw [← callPart_congr hs]
    cases hc : callPart s.sl o with
    | none =>
      rw [hc] at h2
      obtain ⟨h3, h4⟩ := h2
      refine ⟨(bare_congr hs) ▸ h3, ?_⟩
      obtain ⟨sl, hp⟩ := s; obtain ⟨sl2, hp2⟩ := s2
      simp only at hh hs; subst hh
      rw [← evalOp_congr hs]; exact h4
    | some q =>
      rw [hc] at h2
      cases q with
      | none => exact h2.elim
      | some q =>
        obtain ⟨g, args⟩ := q
        simp only at h2 ⊢
        unfold OutCall at h2 ⊢
        rw [hh]; exact h2
  · exact .inr ⟨(guardRun_congr hs) ▸ h1, h2, h3.trans hh.symm⟩
def Z0 (P : Program) (mu : Nat → Bool) (ops : Array Oper) (o : Oper) (s : St) (v : PV) (h' : Hp) : Prop := h' = s.hp ∧ ∀ s2 : St, SameAt ops o s.sl s2.sl → Out P mu ops.toList o s2 v s2.hp
def Sub (h h2 : Hp) : Prop := ∀ id o, hget h id = some o → hget h2 id = some o
def Z1 (P : Program) (mu : Nat → Bool) (ops : Array Oper) (o : Oper) (s : St) (v : PV) (h' : Hp) : Prop := h' = s.hp ∧ ∀ s2 : St, SameAt ops o s.sl s2.sl → Sub s.hp s2.hp → Out P mu ops.toList o s2 v s2.hp
def Z2 (P : Program) (mu : Nat → Bool) (ops : Array Oper) (o : Oper) (s : St) (v : PV) (h' : Hp) : Prop :=
  ∃ d ob, ∃ mk : Id → PV, o.dst = some d ∧ v = mk (hnext s.hp d) ∧ h' = hnew s.hp d ob ∧ ∀ s2 : St, SameAt ops o s.sl s2.sl → Out P mu ops.toList o s2 (mk (hnext s2.hp d)) (hnew s2.hp d ob)
theorem loadPV_sub {t : TypeId} {p v : PV} {h h2 : Hp} (hl : loadPV P t p h = some v) (hs : Sub h h2) : loadPV P t p h2 = some v := by
  unfold loadPV at hl ⊢
  split at hl
  · exact hl
  · exact hl
  · rename_i id n off _
    cases ho : hget h id with
    | none => simp [ho] at hl
    | some o => simp only [ho] at hl; simp only [hs _ _ ho]; exact hl
  · rename_i id n off _
    cases ho : hget h id with
    | none => simp [ho] at hl
    | some o => simp only [ho] at hl; simp only [hs _ _ ho]; exact hl
  · cases hl
theorem loadPV_bare {t : TypeId} {p v : PV} {h : Hp} (hb : p.isRef = false) (hl : loadPV P t p h = some v) (h2 : Hp) : loadPV P t p h2 = some v := by
  unfold loadPV at hl ⊢
  split at hl
  · exact hl
  · exact hl
  · simp [PV.isRef] at hb
  · simp [PV.isRef] at hb
  · cases hl
theorem valid_sub {h h2 : Hp} {id : Id} {n : Nat} (hv : valid h id n = true) (hs : Sub h h2) : valid h2 id n = true := by
  obtain ⟨o, ho, hl⟩ := valid_spec hv
  simp [valid, hs _ _ ho, hl]
theorem fieldAddrPV_sub {t : TypeId} {i : Nat} {p v : PV} {h h2 : Hp} (hl : fieldAddrPV P t i p h = some v) (hs : Sub h h2) : fieldAddrPV P t i p h2 = some v := by
  unfold fieldAddrPV at hl ⊢
  split at hl <;> try (simp at hl; done)
  split at hl <;> simp at hl
  · simp [hl]
  · simp [valid_sub hl.1 hs, hl.2]
theorem fieldAddrPV_bare {t : TypeId} {i : Nat} {p v : PV} {h : Hp} (hb : p.isRef = false) (hl : fieldAddrPV P t i p h = some v) (h2 : Hp) : fieldAddrPV P t i p h2 = some v := by
  unfold fieldAddrPV at hl ⊢
  split at hl <;> try (simp at hl; done)
  split at hl <;> simp at hl
  · simp [hl]
  · simp [PV.isRef] at hb
theorem indexAddrPV_sub {t : TypeId} {p q v : PV} {h h2 : Hp} (hl : indexAddrPV P t p q h = some v) (hs : Sub h h2) : indexAddrPV P t p q h2 = some v := by
  unfold indexAddrPV at hl ⊢
  split at hl <;> try (simp at hl; done)
  split at hl <;> try (simp at hl; done)
  · exact hl
  · split at hl <;> try (simp at hl; done)
    rename_i o ho
    simp only [hs _ _ ho]
    exact hl
theorem indexAddrPV_bare {t : TypeId} {p q v : PV} {h : Hp} (hb : p.isRef = false) (hl : indexAddrPV P t p q h = some v) (h2 : Hp) : indexAddrPV P t p q h2 = some v := by
  unfold indexAddrPV at hl ⊢
  split at hl <;> try (simp at hl; done)
  split at hl <;> try (simp at hl; done)
  · exact hl
  · simp [PV.isRef] at hb
theorem lenPV_sub {p v : PV} {h h2 : Hp} (hl : lenPV h p = some v) (hs : Sub h h2) : lenPV h2 p = some v := by
  unfold lenPV at hl ⊢
  split at hl <;> simp at hl
  · simp [hl]
  · simp [valid_sub hl.1 hs, hl.2]
theorem lenPV_bare {p v : PV} {h : Hp} (hb : p.isRef = false) (hl : lenPV h p = some v) (h2 : Hp) : lenPV h2 p = some v := by
  unfold lenPV at hl ⊢
  split at hl <;> simp at hl
  · simp [hl]
  · simp [PV.isRef] at hb
theorem isNil_sub {p : PV} {b : Bool} {h h2 : Hp} (hl : isNilPV h p = some b) (hs : Sub h h2) : isNilPV h2 p = some b := by
  unfold isNilPV at hl ⊢
  split at hl <;> simp at hl
  · simp [hl]
  · simp [valid_sub hl.1 hs, hl.2]
theorem isNil_bare {p : PV} {b : Bool} {h : Hp} (hb : p.isRef = false) (hl : isNilPV h p = some b) (h2 : Hp) : isNilPV h2 p = some b := by
  unfold isNilPV at hl ⊢
  split at hl <;> simp at hl
  · simp [hl]
  · simp [PV.isRef] at hb
theorem binPV_heap {op : BinOp} {xt : TypeId} {p q v : PV} {h h2 : Hp} (hl : binPV P h op xt p q = some v) (hn : ∀ b, isNilPV h p = some b → isNilPV h2 p = some b) : binPV P h2 op xt p q = some v := by
  unfold binPV at hl ⊢
  split at hl
  · exact hl
  · exact hl
  · exact hl
  · split at hl <;> try (simp at hl; done)
    rename_i e b he hb
    simp only [he, hn b hb]
    exact hl
  · cases hl
theorem still_some {p : Option PV} {h : Hp} {v : PV} {h' : Hp} (he : still p h = some (v, h')) : p = some v ∧ h' = h := by
  unfold still at he
  split at he <;> simp at he
  obtain ⟨rfl, rfl⟩ := he
  exact ⟨rfl, rfl⟩
theorem still_mk {p : Option PV} {h : Hp} {v : PV} (hp : p = some v) : still p h = some (v, h) := by simp [still, hp]
theorem slicePV_bare {t : TypeId} {p v : PV} {lo hi : Option PV} {h h' : Hp} (hb : p.isRef = false) (hl : slicePV P t p lo hi h = some (v, h')) : h' = h ∧ ∀ h2, slicePV P t p lo hi h2 = some (v, h2) := by
  unfold slicePV at hl ⊢
  split at hl
  · split at hl <;> try (simp at hl; done)
    split at hl <;> try (simp at hl; done)
    rename_i hc
    split at hl <;> try (simp at hl; done)
    split at hl <;> simp at hl
    rename_i hd
    refine ⟨hl.2.symm, fun h2 => ?_⟩
    rw [if_pos hc]
    simp only [hd, and_self, if_true, hl.1]
  · simp [PV.isRef] at hb
  · split at hl <;> try (simp at hl; done)
    rename_i hc
    split at hl <;> try (simp at hl; done)
    split at hl <;> simp at hl
    rename_i hd
    refine ⟨hl.2.symm, fun h2 => ?_⟩
    rw [if_pos hc]
    simp only [hd, and_self, if_true, hl.1]
  · simp at hl
theorem evalOp_k0 {o : Oper} {sl : Sl} {h h' : Hp} {v : PV} (hk : hkind mu o = 0) (hb : bare mu o sl = true) (he : evalOp P mu o ⟨sl, h⟩ = some (v, h')) : h' = h ∧ ∀ h2, evalOp P mu o ⟨sl, h2⟩ = some (v, h2) := by
  unfold evalOp at he ⊢
  unfold hkind at hk
  simp only [bare, Bool.and_eq_true] at hb
  replace hb := hb.2
  unfold bare0 at hb
  have site : ∀ d, o.dst = some d → (match o.dst with | some d => if mu d then 2 else 0 | none => 0) = 0 → mu d = false := by
    intro d hd hh; rw [hd] at hh; simp only at hh; split at hh <;> simp_all
  have newVar : ∀ t cs, newVarPV P mu o.dst t cs h = some (v, h') → (match o.dst with | some d => if mu d then 2 else 0 | none => 0) = 0 → h' = h ∧ ∀ h2, newVarPV P mu o.dst t cs h2 = some (v, h2) := by
    intro t cs hn hh
    unfold newVarPV at hn ⊢
    split at hn <;> try (simp at hn; done)
    rename_i d ag hd hag
    split at hn <;> try (simp at hn; done)
    rename_i hc
    rw [hd] at hh
    simp only at hh
    split at hh <;> try (simp at hh; done)
    rename_i hm
    simp only [hm, if_false, Bool.false_eq_true] at hn ⊢
    split at hn <;> simp at hn
    rename_i ts hts
    refine ⟨hn.2.symm, fun h2 => ?_⟩
    simp only [hd, hag, hc, and_self, if_true, hts, hn.1]
  have newRow : ∀ e len cs, newRowPV P mu o.dst e len cs h = some (v, h') → (match o.dst with | some d => if mu d then 2 else 0 | none => 0) = 0 → h' = h ∧ ∀ h2, newRowPV P mu o.dst e len cs h2 = some (v, h2) := by
    intro e len cs hn hh
    unfold newRowPV at hn ⊢
    split at hn <;> try (simp at hn; done)
    rename_i d ag hd hag
    split at hn <;> try (simp at hn; done)
    rename_i hc
    rw [hd] at hh
    simp only at hh
    split at hh <;> try (simp at hh; done)
    rename_i hm
    simp only [hm, if_false, Bool.false_eq_true] at hn ⊢
    split at hn <;> simp at hn
    rename_i ts hts
    refine ⟨hn.2.symm, fun h2 => ?_⟩
    simp only [hd, hag, hc, if_false, hts, hn.1]
  cases hop : o.op <;> simp only [hop] at he hk hb ⊢ <;> try (simp at he; done)
  case move x => simp at he; exact ⟨he.2.symm, fun _ => by simp [he.1]⟩
  case assign x => simp at he; exact ⟨he.2.symm, fun _ => by simp [he.1]⟩
  case pick c x y =>
    split at he <;> simp at he
    exact ⟨he.2.symm, fun _ => by simp [he.1]⟩
  case alloc t =>
    split at he <;> try (simp at he; done)
    exact newVar _ _ he hk
  case box t x => exact newVar _ _ he hk
  case build t ps => obtain ⟨h1, h2⟩ := still_some he; exact ⟨h2, fun _ => still_mk h1⟩
  case buildSlice t n ps =>
    unfold buildSlicePV at he ⊢
    split at he <;> try (simp at he; done)
    split at he <;> try (simp at he; done)
    split at he <;> try (simp at he; done)
    rename_i hc
    split at he <;> try (simp at he; done)
    rename_i hcs
    split at he <;> try (simp at he; done)
    rename_i hone
    obtain ⟨h1, h2⟩ := newRow _ _ _ he hk
    exact ⟨h1, fun hh => by simp only [hc, and_self, if_true, hcs, hone]; exact h2 hh⟩
  case load t x =>
    obtain ⟨h1, h2⟩ := still_some he
    split at hk <;> try (simp at hk; done)
    rename_i hm
    simp only [hm, Bool.false_or, Bool.not_eq_true'] at hb
    exact ⟨h2, fun _ => still_mk (loadPV_bare hb h1 _)⟩
  case makeMap => simp at hk
  case lookup t m k c => cases c <;> simp at hk he
  case mapUpdate => simp at hk
  case entry => simp at hk
  case mapEntry => simp at hk
  case entryStore => simp at hk
  case range => simp at hk
  case store => simp at hk
  case nilCheck x =>
    split at hk <;> try (simp at hk; done)
    rename_i hm
    simp only [hm, Bool.false_or, Bool.not_eq_true'] at hb
    split at he
    · simp at he; exact ⟨he.2.symm, fun _ => by simp [he.1]⟩
    · rename_i hx; rw [hx] at hb; simp [PV.isRef] at hb
    · simp at he
  case binOp op xt x y yt =>
    obtain ⟨h1, h2⟩ := still_some he
    split at hk <;> try (simp at hk; done)
    rename_i hm
    simp only [Bool.or_eq_true, not_or, Bool.not_eq_true] at hm
    simp only [hm.1, hm.2, Bool.false_or, Bool.and_eq_true, Bool.not_eq_true'] at hb
    exact ⟨h2, fun _ => still_mk (binPV_heap h1 (fun b hh => isNil_bare hb.1 hh _))⟩
  case unOp op xt x => obtain ⟨h1, h2⟩ := still_some he; exact ⟨h2, fun _ => still_mk h1⟩
  case convert s d x => obtain ⟨h1, h2⟩ := still_some he; exact ⟨h2, fun _ => still_mk h1⟩
  case makeFunc fn first captured =>
    cases fn <;> simp only at he ⊢ <;> try (simp at he; done)
    split at he <;> simp at he
    rename_i hf
    exact ⟨he.2.symm, fun _ => by rw [if_pos (by simpa using hf), he.1]⟩
  case makeSlice t n m =>
    unfold makeSlicePV at he ⊢
    split at he <;> try (simp at he; done)
    split at he <;> try (simp at he; done)
    split at he <;> try (simp at he; done)
    rename_i hc
    obtain ⟨h1, h2⟩ := newRow _ _ _ he hk
    exact ⟨h1, fun hh => by simp only [hc, and_self, if_true]; exact h2 hh⟩
  case slice t x lo hi mx =>
    split at hk <;> try (simp at hk; done)
    rename_i hm
    simp only [hm, Bool.not_true, Bool.false_or, Bool.not_eq_true'] at hb
    cases mx with
    | none => exact slicePV_bare hb he
    | some _ => simp at he
  case fieldAddr t x i =>
    obtain ⟨h1, h2⟩ := still_some he
    split at hk <;> try (simp at hk; done)
    rename_i hm
    simp only [hm, Bool.false_or, Bool.not_eq_true'] at hb
    exact ⟨h2, fun _ => still_mk (fieldAddrPV_bare hb h1 _)⟩
  case field t x i => obtain ⟨h1, h2⟩ := still_some he; exact ⟨h2, fun _ => still_mk h1⟩
  case indexAddr t x i =>
    obtain ⟨h1, h2⟩ := still_some he
    split at hk <;> try (simp at hk; done)
    rename_i hm
    simp only [hm, Bool.false_or, Bool.not_eq_true'] at hb
    exact ⟨h2, fun _ => still_mk (indexAddrPV_bare hb h1 _)⟩
  case index t x i => obtain ⟨h1, h2⟩ := still_some he; exact ⟨h2, fun _ => still_mk h1⟩
  case extract x i =>
    split at he
    · split at he <;> simp at he
      rename_i hy
      exact ⟨he.2.symm, fun _ => by simp [hy, he.1]⟩
    · split at he <;> simp at he
      rename_i hy
      exact ⟨he.2.symm, fun _ => by simp [hy, he.1]⟩
    · simp at he
  case call c =>
    split at he
    · rename_i x t rest hc hargs htys
      simp only [hc, hargs] at hk hb
      split at hk <;> try (simp at hk; done)
      rename_i hm
      simp only [hm, Bool.false_or, Bool.not_eq_true'] at hb
      split at he
      · rename_i hst
        simp only [hst, if_true]
        split at he <;> simp at he
        exact ⟨he.2.symm, fun _ => by simp [he.1]⟩
      · rename_i hst
        simp only [hst, if_false, Bool.false_eq_true]
        split at he <;> try (simp at he; done)
        rename_i hel
        obtain ⟨h1, h2⟩ := still_some he
        exact ⟨h2, fun _ => by rw [if_pos hel]; exact still_mk (lenPV_bare hb h1 _)⟩
    · rename_i x y t u hc hargs htys
      simp only [hc, hargs] at hk
      split at hk <;> simp at hk
    · obtain ⟨h1, h2⟩ := still_some he; exact ⟨h2, fun _ => still_mk h1⟩
    · obtain ⟨h1, h2⟩ := still_some he; exact ⟨h2, fun _ => still_mk h1⟩
    · simp at he
theorem lookupPV_sub {t : TypeId} {m k v : PV} {h h2 : Hp} (hl : lookupPV P t m k h = some v) (hs : Sub h h2) : lookupPV P t m k h2 = some v := by
  unfold lookupPV at hl ⊢
  split at hl <;> try (simp at hl; done)
  split at hl <;> try (simp at hl; done)
  rename_i o ho
  simp only [hs _ _ ho]
  exact hl
theorem evalOp_k1 {o : Oper} {sl : Sl} {h h' : Hp} {v : PV} (hk : hkind mu o = 1) (he : evalOp P mu o ⟨sl, h⟩ = some (v, h')) : h' = h ∧ ∀ h2, Sub h h2 → evalOp P mu o ⟨sl, h2⟩ = some (v, h2) := by
  unfold evalOp at he ⊢
  unfold hkind at hk
  cases hop : o.op <;> simp only [hop] at he hk ⊢ <;> try (simp at hk; done)
  case slice => split at hk <;> simp at hk
  case lookup t m k c => cases c <;> simp only at he <;> first | (simp at he; done) | (obtain ⟨h1, h2⟩ := still_some he; exact ⟨h2, fun _ hs => still_mk (lookupPV_sub h1 hs)⟩)
  case load t x => obtain ⟨h1, h2⟩ := still_some he; exact ⟨h2, fun _ hs => still_mk (loadPV_sub h1 hs)⟩
  case nilCheck x =>
    split at he
    · simp at he; exact ⟨he.2.symm, fun _ _ => by simp [he.1]⟩
    · split at he <;> simp at he
      rename_i hv
      exact ⟨he.2.symm, fun _ hs => by simp [valid_sub hv hs, he.1]⟩
    · simp at he
  case binOp op xt x y yt => obtain ⟨h1, h2⟩ := still_some he; exact ⟨h2, fun _ hs => still_mk (binPV_heap h1 (fun b hh => isNil_sub hh hs))⟩
  case fieldAddr t x i => obtain ⟨h1, h2⟩ := still_some he; exact ⟨h2, fun _ hs => still_mk (fieldAddrPV_sub h1 hs)⟩
  case indexAddr t x i => obtain ⟨h1, h2⟩ := still_some he; exact ⟨h2, fun _ hs => still_mk (indexAddrPV_sub h1 hs)⟩
  case alloc t => split at hk <;> try (simp at hk; done)
                  split at hk <;> simp at hk
  case box t x => split at hk <;> try (simp at hk; done)
                  split at hk <;> simp at hk
  case makeSlice t n m => split at hk <;> try (simp at hk; done)
                          split at hk <;> simp at hk
  case buildSlice t n ps => split at hk <;> try (simp at hk; done)
                            split at hk <;> simp at hk
  case call c =>
    split at he
    · rename_i x t rest hc hargs htys
      split at he
      · rename_i hst
        simp only [hst, if_true]
        split at he <;> simp at he
        exact ⟨he.2.symm, fun _ _ => by simp [he.1]⟩
      · rename_i hst
        simp only [hst, if_false, Bool.false_eq_true]
        split at he <;> try (simp at he; done)
        rename_i hel
        obtain ⟨h1, h2⟩ := still_some he
        exact ⟨h2, fun _ hs => by rw [if_pos hel]; exact still_mk (lenPV_sub h1 hs)⟩
    · rename_i x y t u hc hargs htys
      simp only [hc, hargs] at hk
      split at hk <;> simp at hk
    · obtain ⟨h1, h2⟩ := still_some he; exact ⟨h2, fun _ _ => still_mk h1⟩
    · obtain ⟨h1, h2⟩ := still_some he; exact ⟨h2, fun _ _ => still_mk h1⟩
    · simp at he
theorem evalOp_k2 {o : Oper} {sl : Sl} {h h' : Hp} {v : PV} (hk : hkind mu o = 2) (he : evalOp P mu o ⟨sl, h⟩ = some (v, h')) :
    ∃ d ob, ∃ mk : Id → PV, o.dst = some d ∧ v = mk (hnext h d) ∧ h' = hnew h d ob ∧ ∀ h2, evalOp P mu o ⟨sl, h2⟩ = some (mk (hnext h2 d), hnew h2 d ob) := by
  unfold evalOp at he ⊢
  unfold hkind at hk
  have newVar : ∀ t cs, newVarPV P mu o.dst t cs h = some (v, h') → (match o.dst with | some d => if mu d then 2 else 0 | none => 0) = 2 →
      ∃ d ob, ∃ mk : Id → PV, o.dst = some d ∧ v = mk (hnext h d) ∧ h' = hnew h d ob ∧ ∀ h2, newVarPV P mu o.dst t cs h2 = some (mk (hnext h2 d), hnew h2 d ob) := by
    intro t cs hn hh
    unfold newVarPV at hn ⊢
    split at hn <;> try (simp at hn; done)
    rename_i d ag hd hag
    split at hn <;> try (simp at hn; done)
    rename_i hc
    rw [hd] at hh
    simp only at hh
    split at hh <;> try (simp at hh; done)
    rename_i hm
    simp only [hm, if_true] at hn
    simp at hn
    refine ⟨d, _, fun id => .ad id 1 0, hd, hn.1.symm, hn.2.symm, fun h2 => ?_⟩
    simp only [hd, hag, hc, and_self, if_true, hm]
  have newRow : ∀ e len cs, newRowPV P mu o.dst e len cs h = some (v, h') → (match o.dst with | some d => if mu d then 2 else 0 | none => 0) = 2 →
      ∃ d ob, ∃ mk : Id → PV, o.dst = some d ∧ v = mk (hnext h d) ∧ h' = hnew h d ob ∧ ∀ h2, newRowPV P mu o.dst e len cs h2 = some (mk (hnext h2 d), hnew h2 d ob) := by
    intro e len cs hn hh
    unfold newRowPV at hn ⊢
    split at hn <;> try (simp at hn; done)
    rename_i d ag hd hag
    split at hn <;> try (simp at hn; done)
    rename_i hc
    rw [hd] at hh
    simp only at hh
    split at hh <;> try (simp at hh; done)
    rename_i hm
    simp only [hm, if_true] at hn
    simp at hn
    refine ⟨d, _, fun id => .rf id len, hd, hn.1.symm, hn.2.symm, fun h2 => ?_⟩
    simp only [hd, hag, hc, if_false, hm, if_true]
  cases hop : o.op <;> simp only [hop] at he hk ⊢ <;> try (simp at hk; done)
  case slice => split at hk <;> simp at hk
  case load t x => split at hk <;> simp at hk
  case nilCheck x => split at hk <;> simp at hk
  case fieldAddr t x i => split at hk <;> simp at hk
  case indexAddr t x i => split at hk <;> simp at hk
  case binOp op xt x y yt => split at hk <;> simp at hk
  case lookup t m k c => cases c <;> simp at hk
  case call c => split at hk <;> first | (simp at hk; done) | (split at hk <;> first | (simp at hk; done) | (split at hk <;> simp at hk; done))
  case alloc t =>
    split at he <;> try (simp at he; done)
    exact newVar _ _ he hk
  case box t x => exact newVar _ _ he hk
  case buildSlice t n ps =>
    unfold buildSlicePV at he ⊢
    split at he <;> try (simp at he; done)
    split at he <;> try (simp at he; done)
    split at he <;> try (simp at he; done)
    rename_i hc
    split at he <;> try (simp at he; done)
    rename_i hcs
    split at he <;> try (simp at he; done)
    rename_i hone
    obtain ⟨d, ob, mk, h1, h2, h3, h4⟩ := newRow _ _ _ he hk
    exact ⟨d, ob, mk, h1, h2, h3, fun hh => by simp only [hc, and_self, if_true, hcs, hone]; exact h4 hh⟩
  case makeSlice t n m =>
    unfold makeSlicePV at he ⊢
    split at he <;> try (simp at he; done)
    split at he <;> try (simp at he; done)
    split at he <;> try (simp at he; done)
    rename_i hc
    obtain ⟨d, ob, mk, h1, h2, h3, h4⟩ := newRow _ _ _ he hk
    exact ⟨d, ob, mk, h1, h2, h3, fun hh => by simp only [hc, and_self, if_true]; exact h4 hh⟩
theorem toTr_sub {h h2 : Hp} (hs : Sub h h2) : ∀ (k : Nat) (p : PV) (x : Tr), toTr h k p = some x → toTr h2 k p = some x := by
  intro k
  induction k with
  | zero => intro p x ht; cases p <;> simp [toTr] at ht ⊢; exact ht
  | succ k ih =>
    have lists : ∀ (l : List PV) (ts : List Tr), mapO (toTr h k) l = some ts → mapO (toTr h2 k) l = some ts := by
      intro l
      induction l with
      | nil => intro ts hm; exact hm
      | cons a l ihl =>
        intro ts hm
        simp only [mapO] at hm ⊢
        split at hm <;> try (simp at hm; done)
        rename_i b bs hb hbs
        rw [ih _ _ hb, ihl _ hbs]; exact hm
    intro p x ht
    cases p <;> simp only [toTr] at ht ⊢ <;> try (simp at ht; done)
    case t => exact ht
    case ro => exact ht
    case rf id n =>
      split at ht <;> try (simp at ht; done)
      rename_i o ho
      rw [hs _ _ ho]
      simp only
      split at ht <;> try (simp at ht; done)
      rename_i hl
      rw [if_pos hl]
      split at ht <;> try (simp at ht; done)
      rename_i ts hm
      rw [lists _ _ hm]; exact ht
    case ad id n off =>
      split at ht <;> try (simp at ht; done)
      rename_i o ho
      rw [hs _ _ ho]
      simp only
      split at ht <;> try (simp at ht; done)
      rename_i hl
      rw [if_pos hl]
      split at ht <;> try (simp at ht; done)
      rename_i ts hm
      rw [lists _ _ hm]; exact ht
    all_goals
      split at ht <;> try (simp at ht; done)
      rename_i ts hm
      rw [lists _ _ hm]; exact ht
theorem mapO_sub {h h2 : Hp} (hs : Sub h h2) {k : Nat} : ∀ {l : List PV} {ts : List Tr}, mapO (toTr h k) l = some ts → mapO (toTr h2 k) l = some ts
  | [], _, hm => hm
  | a :: l, ts, hm => by
    simp only [mapO] at hm ⊢
    split at hm <;> try (simp at hm; done)
    rename_i b bs hb hbs
    rw [toTr_sub hs _ _ _ hb, mapO_sub hs hbs]; exact hm
theorem evalOp_away {o : Oper} {sl : Sl} {h h' : Hp} {v : PV} (hk : hkind mu o = 1) (hl : farRead mu o = true) (h39 : mu 3999999 = true) (hb : bare mu o sl = true) (he : evalOp P mu o ⟨sl, h⟩ = some (v, h')) :
    h' = h ∧ ∀ h2 : Hp, (∀ c, mu (3000000 + c) = false → h2 c = h c) → evalOp P mu o ⟨sl, h2⟩ = some (v, h2) := by
  have e1 := (evalOp_k1 hk he).1
  refine ⟨e1, fun h2 hh => ?_⟩
  subst e1
  have haw : awayO mu o sl = true := by simp only [bare, Bool.and_eq_true] at hb; exact hb.1.1
  have key : ∀ p : PV, awX mu p = true → ∀ id, p.site = some id.1 → hget h2 id = hget h' id := by
    intro p hp id hs
    unfold awX away1 at hp
    rw [h39, hs] at hp
    simp only [Bool.not_true, Bool.false_or, Bool.not_eq_true'] at hp
    unfold hget
    rw [hh _ hp]
  unfold awayO at haw
  unfold farRead localRead nearO at hl
  unfold evalOp at he ⊢
  cases hop : o.op <;> simp only [hop] at hl haw he ⊢ <;> try (simp at hl; done)
  case load t x =>
    have haw : awX mu (ev sl x) = true := by cases hn : nearM mu x <;> simp [hn] at hl haw ⊢ <;> exact haw
    obtain ⟨g1, _⟩ := still_some he
    refine still_mk ?_
    rw [← g1]
    unfold loadPV
    cases hp : ev sl x with
    | ad id n off =>
      rw [hp] at haw
      cases aggB P t with
      | none => rfl
      | some b => cases b <;> simp only [key _ haw id rfl]
    | ro cs =>
      cases aggB P t with
      | none => rfl
      | some b => cases b <;> cases cs <;> rfl
    | _ =>
      cases aggB P t with
      | none => rfl
      | some b => cases b <;> rfl
  case nilCheck x =>
    have haw : awX mu (ev sl x) = true := by cases hn : nearM mu x <;> simp [hn] at hl haw ⊢ <;> exact haw
    cases hp : ev sl x with
    | ad id n off =>
      rw [hp] at haw he
      have hv2 : valid h2 id n = valid h' id n := by unfold valid; rw [key _ haw id rfl]
      simp only at he ⊢
      rw [hv2]
      cases hv : valid h' id n with
      | true => rw [hv] at he; simp at he ⊢; exact he
      | false => rw [hv] at he; simp at he
    | ro cs => rw [hp] at he; simp only at he ⊢; simp at he; rw [he]
    | _ => rw [hp] at he; simp at he
  case fieldAddr t x i =>
    have haw : awX mu (ev sl x) = true := by cases hn : nearM mu x <;> simp [hn] at hl haw ⊢ <;> exact haw
    obtain ⟨g1, _⟩ := still_some he
    refine still_mk ?_
    rw [← g1]
    unfold fieldAddrPV
    cases hp : ev sl x with
    | ad id n off => rw [hp] at haw; unfold valid; simp only [key _ haw id rfl]
    | _ => rfl
  case indexAddr t x i =>
    have haw : awX mu (ev sl x) = true := by cases hn : nearM mu x <;> simp [hn] at hl haw ⊢ <;> exact haw
    obtain ⟨g1, _⟩ := still_some he
    refine still_mk ?_
    rw [← g1]
    have hfree : ∀ p : PV, (∀ id n, p ≠ .rf id n) → ∀ q : PV, indexAddrPV P t p q h2 = indexAddrPV P t p q h' := by
      intro p hp q
      unfold indexAddrPV
      cases elemB P t with
      | none => rfl
      | some e =>
        cases p with
        | rf id n => exact absurd rfl (hp id n)
        | t y =>
          cases y with
          | sl nn l =>
            cases q with
            | t z => cases z <;> rfl
            | _ => rfl
          | _ => rfl
        | _ => rfl
    cases hp : ev sl x with
    | rf id n =>
      rw [hp] at haw
      unfold indexAddrPV
      cases elemB P t with
      | none => rfl
      | some e =>
        cases ev sl i with
        | t z =>
          cases z with
          | int k m => simp only [key _ haw id rfl]
          | _ => rfl
        | _ => rfl
    | _ => exact hfree _ (fun _ _ e => by cases e) _
theorem evalOp_k4 {o : Oper} {sl : Sl} {h h' : Hp} {v : PV} (hk : hkind mu o = 4) (h39 : mu 3999999 = true) (hb : bare mu o sl = true) (he : evalOp P mu o ⟨sl, h⟩ = some (v, h')) :
    ∃ e L, mu (3000000 + e) = true ∧ h' = upd h e L ∧ ∀ h2 : Hp, h2 e = h e → Sub h h2 → evalOp P mu o ⟨sl, h2⟩ = some (v, upd h2 e L) := by
  have haw : awayO mu o sl = true := by simp only [bare, Bool.and_eq_true] at hb; exact hb.1.1
  have self : ∀ (f : Hp) (a : Nat), upd f a (f a) = f := fun f a => by
    funext u; unfold upd; split
    · rename_i h; rw [h]
    · rfl
  unfold hkind at hk
  unfold awayO at haw
  unfold evalOp at he ⊢
  cases hop : o.op <;> simp only [hop] at hk haw he ⊢ <;> try (simp at hk; done)
  all_goals try (split at hk <;> simp at hk; done)
  case alloc => split at hk <;> try (simp at hk; done)
                split at hk <;> simp at hk
  case box => split at hk <;> try (simp at hk; done)
              split at hk <;> simp at hk
  case buildSlice => split at hk <;> try (simp at hk; done)
                     split at hk <;> simp at hk
  case makeSlice => split at hk <;> try (simp at hk; done)
                    split at hk <;> simp at hk
  case lookup t m k c => cases c <;> simp at hk
  case call c =>
    obtain ⟨callee, args, argTypes⟩ := c
    simp only at hk haw he ⊢
    split at he
    · rename_i x t rest hargs htys
      simp only [hargs] at hk
      split at hk <;> simp at hk
    · rename_i x y t u hargs htys
      simp only [hargs] at hk haw
      have hres : resB mu o.dst = true := by
        cases hr : resB mu o.dst with
        | true => rfl
        | false => rw [hr] at hk; simp at hk
      unfold apX at haw
      rw [h39, hres] at haw
      simp only [Bool.not_true, Bool.false_or] at haw
      cases hd : o.dst with
      | none => rw [hd] at hres; simp [resB] at hres
      | some d =>
        rw [hd] at haw hres he
        simp only [Bool.and_eq_true] at haw
        obtain ⟨hx, hy⟩ := haw
        generalize apArg P t u (ev sl y) = yy at *
        have hsrc : ∀ e (h2 : Hp), Sub h h2 → ∀ q, srcPV P e yy h = some q → srcPV P e yy h2 = some q := by
          intro e h2 hs q hq
          unfold srcPV at hq ⊢
          split at hq
          · exact hq
          · split at hq <;> try (simp at hq; done)
            rename_i o' ho'
            simp only [hs _ _ ho']; exact hq
          · simp at hq
        unfold appendPV at he ⊢
        split at he <;> try (simp at he; done)
        rename_i e hel
        split at he <;> try (simp at he; done)
        rename_i z m news hz hsr
        split at he <;> try (simp at he; done)
        rename_i hzl
        split at he
        · -- nil
          rename_i nn l hxs
          rw [hxs] at hx
          split at he
          · rename_i hm
            simp only [Option.some.injEq, Prod.mk.injEq] at he
            obtain ⟨rfl, rfl⟩ := he
            refine ⟨d, h d, hres, (self _ _).symm, fun h2 h3 hs => ?_⟩
            simp only [hz, hsrc _ _ hs _ hsr, hzl, and_self, if_true, hxs, hm]
            rw [← h3, self]
          · rename_i hm
            split at he <;> try (simp at he; done)
            rename_i hc
            unfold newRowPV at he
            try simp only at he
            split at he <;> try (simp at he; done)
            rename_i d' ag hdd hag
            cases hdd
            split at he <;> try (simp at he; done)
            rename_i hag1
            split at he
            · rename_i hmu
              simp only [Option.some.injEq, Prod.mk.injEq] at he
              obtain ⟨rfl, rfl⟩ := he
              refine ⟨d, h d ++ [⟨news, P.cellsOf e, m, e, ag, true⟩], hres, rfl, fun h2 h3 hs => ?_⟩
              simp only [hz, hsrc _ _ hs _ hsr, hzl, and_self, if_true, hxs, hm, if_false, hc, newRowPV, hag, hag1, hmu]
              simp only [hnext, hnew, h3]
            · rename_i hmu
              split at he <;> simp at he
              rename_i ts hts
              obtain ⟨rfl, rfl⟩ := he
              refine ⟨d, h d, hres, (self _ _).symm, fun h2 h3 hs => ?_⟩
              simp only [hz, hsrc _ _ hs _ hsr, hzl, and_self, if_true, hxs, hm, if_false, hc, newRowPV, hag, hag1, hmu, hts, Bool.false_eq_true]
              rw [← h3, self]
        · rename_i id n hxs
          rw [hxs] at hx
          have hres2 : mu (3000000 + id.1) = true := hx
          split at he <;> try (simp at he; done)
          rename_i ob hob
          split at he <;> try (simp at he; done)
          rename_i hc
          have hg : ∀ h2 : Hp, h2 id.1 = h id.1 → hget h2 id = some ob := fun h2 h3 => by
            unfold hget at hob ⊢; rw [h3]; exact hob
          split at he
          · rename_i hm
            simp only [Option.some.injEq, Prod.mk.injEq] at he
            obtain ⟨rfl, rfl⟩ := he
            refine ⟨id.1, h id.1, hres2, (self _ _).symm, fun h2 h3 hs => ?_⟩
            simp only [hz, hsrc _ _ hs _ hsr, hzl, and_self, if_true, hxs, hg h2 h3, hm]
            rw [if_pos (by rw [hm] at hc; exact hc), ← h3, self]
          · rename_i hm
            simp only [Option.some.injEq, Prod.mk.injEq] at he
            obtain ⟨rfl, rfl⟩ := he
            refine ⟨id.1, (h id.1).set id.2 { ob with cs := ob.cs ++ news, len := n + m }, hres2, rfl, fun h2 h3 hs => ?_⟩
            simp only [hz, hsrc _ _ hs _ hsr, hzl, and_self, if_true, hxs, hg h2 h3, hm, if_false]
            rw [if_pos hc]
            unfold hset
            rw [h3]
        · simp at he
    · rename_i x y hargs
      simp at hk
    · rename_i x y hargs
      simp at hk
    · simp at he
theorem Out.kind {ops : Array Oper} {o : Oper} {s : St} {v : PV} {h' : Hp} (h : Out P mu ops.toList o s v h') :
    Z0 P mu ops o s v h' ∨ (hkind mu o = 1 ∧ Z1 P mu ops o s v h') ∨ (hkind mu o = 2 ∧ Z2 P mu ops o s v h') ∨ (hkind mu o ≠ 0 ∧ hkind mu o ≠ 1 ∧ hkind mu o ≠ 2) := by
  rcases h with ⟨h1, h2⟩ | ⟨h1, rfl, rfl⟩
  · have hcall : ∀ q, callPart s.sl o = some q → hkind mu o = if fatB mu o.dst then 3 else if rdB mu o.dst then 1 else 0 := by
      intro q hq
      unfold callPart at hq
      split at hq <;> try (simp at hq; done)
      rename_i c hop
      split at hq <;> try (simp at hq; done)
      rename_i f hc
      unfold hkind
      simp only [hop, hc]
    unfold OutW at h2
    cases hc : callPart s.sl o with
    | some q =>
      rw [hc] at h2
      cases q with
      | none => exact h2.elim
      | some q =>
        obtain ⟨g, args⟩ := q
        rcases h2 with ⟨ts, r, t1, t2, rfl, rfl⟩ | ⟨t0, t1⟩ | ⟨t0, ts, r, t1, t2, t3, rfl, rfl⟩
        · refine .inl ⟨rfl, fun s2 hs => .inl ⟨(guardRun_congr hs) ▸ h1, ?_⟩⟩
          unfold OutW
          rw [← callPart_congr hs, hc]
          exact .inl ⟨ts, r, t1, t2, rfl, rfl⟩
        · have hk := hcall _ hc
          rw [t0, if_pos rfl] at hk
          exact .inr (.inr (.inr ⟨by omega, by omega, by omega⟩))
        · have hk := hcall _ hc
          by_cases hf : fatB mu o.dst = true
          · rw [hf, if_pos rfl] at hk
            exact .inr (.inr (.inr ⟨by omega, by omega, by omega⟩))
          · rw [if_neg hf, t0, if_pos rfl] at hk
            refine .inr (.inl ⟨hk, rfl, fun s2 hs hsub => .inl ⟨(guardRun_congr hs) ▸ h1, ?_⟩⟩)
            unfold OutW
            rw [← callPart_congr hs, hc]
            exact .inr (.inr ⟨t0, ts, r, mapO_sub hsub t1, t2, t3, rfl, rfl⟩)
    | none =>
      rw [hc] at h2
      obtain ⟨h3, h4⟩ := h2
      obtain ⟨sl, hp⟩ := s
      have mkOut : ∀ (s2 : St) (v : PV) (h' : Hp), SameAt ops o sl s2.sl → evalOp P mu o ⟨sl, s2.hp⟩ = some (v, h') → Out P mu ops.toList o s2 v h' := by
        intro s2 v h' hs hev
        refine .inl ⟨(guardRun_congr hs) ▸ h1, ?_⟩
        unfold OutW
        rw [← callPart_congr hs, hc]
        refine ⟨(bare_congr hs) ▸ h3, ?_⟩
        obtain ⟨sl2, hp2⟩ := s2
        rw [← evalOp_congr hs]; exact hev
      by_cases k0 : hkind mu o = 0
      · obtain ⟨e1, e2⟩ := evalOp_k0 k0 h3 h4
        exact .inl ⟨e1, fun s2 hs => mkOut s2 _ _ hs (e2 _)⟩
      · by_cases k1 : hkind mu o = 1
        · obtain ⟨e1, e2⟩ := evalOp_k1 k1 h4
          exact .inr (.inl ⟨k1, e1, fun s2 hs hsub => mkOut s2 _ _ hs (e2 _ hsub)⟩)
        · by_cases k2 : hkind mu o = 2
          · obtain ⟨d, ob, mk, e1, e2, e3, e4⟩ := evalOp_k2 k2 h4
            exact .inr (.inr (.inl ⟨k2, d, ob, mk, e1, e2, e3, fun s2 hs => mkOut s2 _ _ hs (e4 _)⟩))
          · exact .inr (.inr (.inr ⟨k0, k1, k2⟩))
  · exact .inl ⟨rfl, fun s2 hs => .inr ⟨(guardRun_congr hs) ▸ h1, rfl, rfl⟩⟩
def Zh (P : Program) (mu : Nat → Bool) (ops : Array Oper) (o : Oper) (d : Nat) (s : St) (v : PV) (h' : Hp) : Prop :=
  ∃ L, h' = upd s.hp d L ∧ ∀ s2 : St, SameAt ops o s.sl s2.sl → s2.hp d = s.hp d → Out P mu ops.toList o s2 v (upd s2.hp d L)
theorem upd_self {α : Type} (f : Nat → α) (a : Nat) : upd f a (f a) = f := by
  funext u; unfold upd; split
  · rename_i h; rw [h]
  · rfl
theorem Out.home {ops : Array Oper} {o : Oper} {s : St} {v : PV} {h' : Hp} {d : Nat} (h : Out P mu ops.toList o s v h') (hd : home mu o = some d) : Zh P mu ops o d s v h' := by
  rcases h with ⟨h1, h2⟩ | ⟨h1, rfl, rfl⟩
  · have hc : callPart s.sl o = none := by
      unfold Vm.home at hd
      unfold callPart
      cases hop : o.op <;> simp only [hop] at hd <;> first | rfl | (simp at hd)
    unfold OutW at h2
    rw [hc] at h2
    obtain ⟨h3, h4⟩ := h2
    have hh : homed mu o s.sl = true := by simp only [bare, Bool.and_eq_true] at h3; exact h3.1.2
    have mkOut : ∀ (s2 : St) (v : PV) (h' : Hp), SameAt ops o s.sl s2.sl → evalOp P mu o ⟨s.sl, s2.hp⟩ = some (v, h') → Out P mu ops.toList o s2 v h' := by
      intro s2 v h' hs hev
      refine .inl ⟨(guardRun_congr hs) ▸ h1, ?_⟩
      unfold OutW
      rw [← callPart_congr hs, hc]
      refine ⟨(bare_congr hs) ▸ h3, ?_⟩
      obtain ⟨sl2, hp2⟩ := s2
      rw [← evalOp_congr hs]; exact hev
    unfold homed at hh
    rw [hd] at hh
    simp only at hh
    have hval : ∃ id n off, s.sl d = .ad id n off ∧ id.1 = d := by
      unfold PV.at_ at hh
      split at hh
      · rename_i id n off heq; exact ⟨id, n, off, heq, by simpa using hh⟩
      · cases hh
    obtain ⟨id, n, off, hsl, hid⟩ := hval
    have hgeq : ∀ h2 : Hp, h2 d = s.hp d → hget h2 id = hget s.hp id := fun h2 he => by unfold hget; rw [hid, he]
    have opnd : ∀ x : Operand, homeX mu x = some d → ev s.sl x = .ad id n off := by
      intro x hx
      unfold homeX at hx
      split at hx <;> try (simp at hx; done)
      split at hx <;> simp at hx
      subst hx
      exact hsl
    unfold Vm.home at hd
    cases hop : o.op <;> simp only [hop] at hd <;> try (simp at hd; done)
    case load t x =>
      have hx := opnd x hd
      have hev : ∀ h2 : Hp, evalOp P mu o ⟨s.sl, h2⟩ = still (loadPV P t (.ad id n off) h2) h2 := fun h2 => by unfold evalOp; simp only [hop, hx]
      have h4' : evalOp P mu o ⟨s.sl, s.hp⟩ = some (v, h') := h4
      rw [hev] at h4'
      obtain ⟨e1, e2⟩ := still_some h4'
      refine ⟨s.hp d, by rw [e2, upd_self], fun s2 hs he => mkOut s2 _ _ hs ?_⟩
      rw [hev, ← he, upd_self]
      refine still_mk ?_
      rw [← e1]
      unfold loadPV
      cases aggB P t with
      | none => rfl
      | some b => cases b <;> simp only [hgeq _ he]
    case store t x y =>
      have hx := opnd x hd
      have hev : ∀ h2 : Hp, evalOp P mu o ⟨s.sl, h2⟩ = (match storePV P t (.ad id n off) (ev s.sl y) h2 with | some h => some (.skip, h) | none => none) := fun h2 => by
        unfold evalOp; simp only [hop, hx]
        cases storePV P t (.ad id n off) (ev s.sl y) h2 <;> rfl
      have h4' : evalOp P mu o ⟨s.sl, s.hp⟩ = some (v, h') := h4
      rw [hev] at h4'
      split at h4' <;> simp at h4'
      rename_i hh2 hst
      obtain ⟨rfl, rfl⟩ := h4'
      unfold storePV at hst
      cases ho : hget s.hp id with
      | none => simp [ho] at hst
      | some ob =>
        simp only [ho] at hst
        split at hst <;> simp at hst
        rename_i hcond
        subst hst
        refine ⟨(s.hp d).set id.2 { ob with cs := splice ob.cs off (ev s.sl y).cells }, by unfold hset; rw [hid], fun s2 hs he => mkOut s2 _ _ hs ?_⟩
        rw [hev]
        have : storePV P t (.ad id n off) (ev s.sl y) s2.hp = some (upd s2.hp d ((s.hp d).set id.2 { ob with cs := splice ob.cs off (ev s.sl y).cells })) := by
          unfold storePV
          simp only [hgeq _ he, ho]
          rw [if_pos hcond]
          unfold hset
          rw [hid, he]
        rw [this]
  · exact ⟨s.hp d, (upd_self _ _).symm, fun s2 hs he => by rw [← he, upd_self]; exact .inr ⟨(guardRun_congr hs) ▸ h1, rfl, rfl⟩⟩
theorem upd_comm {α : Type} (f : Nat → α) {a b : Nat} (x y : α) (h : a ≠ b) : upd (upd f a x) b y = upd (upd f b y) a x := by
  funext u
  simp only [upd]
  by_cases h1 : u = b
  · subst h1; simp [Ne.symm h]
  · simp [h1]
theorem put_comm (s : St) (h1 h2 : Hp) {a b : Option Tmp} (x y : PV) (hne : ∀ d, a = some d → b ≠ some d) :
    St.put { (St.put { s with hp := h1 } a x) with hp := h2 } b y = St.put { (St.put { s with hp := h1 } b y) with hp := h2 } a x := by
  cases a with
  | none => cases b <;> rfl
  | some d =>
    cases b with
    | none => rfl
    | some e =>
      have hde : d ≠ e := fun h => hne d rfl (h ▸ rfl)
      simp only [St.put]
      rw [upd_comm _ _ _ hde]
theorem sameAt_put {ops : Array Oper} {o : Oper} {s : St} {d : Option Tmp} {v : PV} {h : Hp} (hd : ∀ t, d = some t → t ∉ o.looksAt ops) : SameAt ops o (St.put { s with hp := h } d v).sl s.sl := by
  intro t ht
  cases d with
  | none => rfl
  | some e =>
    simp only [St.put]
    exact upd_ne _ _ _ _ (fun h => hd e rfl (h ▸ ht))
theorem put_hp (s : St) (h : Hp) (d : Option Tmp) (v : PV) : (St.put { s with hp := h } d v).hp = h := by cases d <;> rfl
theorem put_put (s : St) (h h2 : Hp) (d e : Option Tmp) (v x : PV) : St.put { (St.put { s with hp := h } d v) with hp := h2 } e x = St.put { (St.put { s with hp := h2 } d v) with hp := h2 } e x := by
  cases d <;> cases e <;> rfl
theorem Out.rd {ops : Array Oper} {o : Oper} {s : St} {v : PV} {h' : Hp} (h : Out P mu ops.toList o s v h') (hk : hkind mu o = 1) (hl : farRead mu o = true) (h39 : mu 3999999 = true) :
    h' = s.hp ∧ ∀ s2 : St, SameAt ops o s.sl s2.sl → (∀ c, mu (3000000 + c) = false → s2.hp c = s.hp c) → Out P mu ops.toList o s2 v s2.hp := by
  rcases h with ⟨h1, h2⟩ | ⟨h1, rfl, rfl⟩
  · have hc : callPart s.sl o = none := by
      unfold farRead localRead nearO at hl
      unfold callPart
      cases hop : o.op <;> simp only [hop] at hl <;> first | rfl | (simp at hl)
    unfold OutW at h2
    rw [hc] at h2
    obtain ⟨h3, h4⟩ := h2
    obtain ⟨e1, e2⟩ := evalOp_away (h := s.hp) hk hl h39 h3 h4
    refine ⟨e1, fun s2 hs hh => .inl ⟨(guardRun_congr hs) ▸ h1, ?_⟩⟩
    unfold OutW
    rw [← callPart_congr hs, hc]
    refine ⟨(bare_congr hs) ▸ h3, ?_⟩
    have := e2 s2.hp hh
    obtain ⟨sl2, hp2⟩ := s2
    rw [← evalOp_congr hs]; exact this
  · exact ⟨rfl, fun s2 hs _ => .inr ⟨(guardRun_congr hs) ▸ h1, rfl, rfl⟩⟩
theorem Out.ap {ops : Array Oper} {o : Oper} {s : St} {v : PV} {h' : Hp} (h : Out P mu ops.toList o s v h') (hk : hkind mu o = 4) (h39 : mu 3999999 = true) :
    Z0 P mu ops o s v h' ∨ ∃ d L, mu (3000000 + d) = true ∧ h' = upd s.hp d L ∧ ∀ s2 : St, SameAt ops o s.sl s2.sl → s2.hp d = s.hp d → Sub s.hp s2.hp → Out P mu ops.toList o s2 v (upd s2.hp d L) := by
  rcases h with ⟨h1, h2⟩ | ⟨h1, rfl, rfl⟩
  · right
    have hc : callPart s.sl o = none := by
      unfold hkind at hk
      unfold callPart
      cases hop : o.op <;> simp only [hop] at hk <;> try rfl
      rename_i c
      cases hcc : c.callee with
      | value f =>
        rw [hcc] at hk
        simp only at hk
        split at hk
        · simp at hk
        · split at hk <;> simp at hk
      | _ => simp only [hcc]
    unfold OutW at h2
    rw [hc] at h2
    obtain ⟨h3, h4⟩ := h2
    obtain ⟨d, L, e2, e3, e4⟩ := evalOp_k4 (h := s.hp) hk h39 h3 h4
    refine ⟨d, L, e2, e3, fun s2 hs hd hsub => .inl ⟨(guardRun_congr hs) ▸ h1, ?_⟩⟩
    unfold OutW
    rw [← callPart_congr hs, hc]
    refine ⟨(bare_congr hs) ▸ h3, ?_⟩
    have := e4 s2.hp hd hsub
    obtain ⟨sl2, hp2⟩ := s2
    rw [← evalOp_congr hs]; exact this
  · exact .inl ⟨rfl, fun s2 hs => .inr ⟨(guardRun_congr hs) ▸ h1, rfl, rfl⟩⟩
def Live (h h2 : Hp) : Prop := ∀ id, (hget h2 id).map (fun o => { o with live := true }) = (hget h id).map (fun o => { o with live := true })
theorem Live.refl (h : Hp) : Live h h := fun _ => rfl
theorem Live.symm {h h2 : Hp} (hl : Live h h2) : Live h2 h := fun id => (hl id).symm
theorem Live.get {h h2 : Hp} (hl : Live h h2) {id : Id} : (hget h id = none ∧ hget h2 id = none) ∨ ∃ o o2, hget h id = some o ∧ hget h2 id = some o2 ∧ o2.cs = o.cs ∧ o2.esz = o.esz ∧ o2.len = o.len ∧ o2.elem = o.elem ∧ o2.ag = o.ag := by
  have := hl id
  cases h1 : hget h id with
  | none =>
    rw [h1] at this
    cases h2' : hget h2 id with
    | none => exact .inl ⟨rfl, rfl⟩
    | some o => rw [h2'] at this; cases this
  | some o =>
    rw [h1] at this
    cases h2' : hget h2 id with
    | none => rw [h2'] at this; cases this
    | some o2 =>
      rw [h2'] at this
      simp only [Option.map_some, Option.some.injEq, Obj.mk.injEq, and_true] at this
      obtain ⟨e1, e2, e3, e4, e5⟩ := this
      exact .inr ⟨o, o2, rfl, rfl, e1, e2, e3, e4, e5⟩
theorem Live.frz (h : Hp) (ids : List Id) : Live h (frz h ids) := fun id => by
  rw [hget_frz]
  cases hget h id <;> rfl
theorem loadPV_live {t : TypeId} {p : PV} {h h2 : Hp} (hl : Live h h2) : loadPV P t p h2 = loadPV P t p h := by
  cases p with
  | ad id n off =>
    unfold loadPV
    cases hagg : aggB P t with
    | none => rfl
    | some b =>
      rcases hl.get (id := id) with ⟨e1, e2⟩ | ⟨o, o2, e1, e2, f1, f2, f3, f4, f5⟩
      · cases b <;> simp only [e1, e2]
      · cases b <;> simp only [e1, e2, f1, f3]
  | ro cs => unfold loadPV; (cases aggB P t with | none => rfl | some b => cases b <;> cases cs <;> rfl)
  | _ => unfold loadPV; (cases aggB P t with | none => rfl | some b => cases b <;> rfl)
theorem valid_live {h h2 : Hp} (hl : Live h h2) (id : Id) (n : Nat) : valid h2 id n = valid h id n := by
  unfold valid
  rcases hl.get (id := id) with ⟨e1, e2⟩ | ⟨o, o2, e1, e2, f1, f2, f3, f4, f5⟩
  · rw [e1, e2]
  · rw [e1, e2]; simp only [f3]
theorem fieldAddrPV_live {t : TypeId} {i : Nat} {p : PV} {h h2 : Hp} (hl : Live h h2) : fieldAddrPV P t i p h2 = fieldAddrPV P t i p h := by
  cases p with
  | ad id n off => unfold fieldAddrPV; (cases fieldB P t i with | none => rfl | some q => simp only [valid_live hl])
  | _ => unfold fieldAddrPV; (cases fieldB P t i with | none => rfl | some q => rfl)
theorem indexAddrPV_live {t : TypeId} {p q : PV} {h h2 : Hp} (hl : Live h h2) : indexAddrPV P t p q h2 = indexAddrPV P t p q h := by
  cases p with
  | rf id n =>
    unfold indexAddrPV
    cases hagg : elemB P t with
    | none => rfl
    | some e =>
      cases q with
      | t x =>
        cases x with
        | int k i =>
          rcases hl.get (id := id) with ⟨e1, e2⟩ | ⟨o, o2, e1, e2, f1, f2, f3, f4, f5⟩
          · simp only [e1, e2]
          · simp only [e1, e2, f2, f3]
        | _ => rfl
      | _ => rfl
  | t x => unfold indexAddrPV; (cases elemB P t with | none => rfl | some e => cases x <;> cases q <;> (first | rfl | (rename_i y; cases y <;> rfl)))
  | _ => unfold indexAddrPV; (cases elemB P t with | none => rfl | some e => rfl)
theorem evalOp_live {o : Oper} {sl : Sl} {h h' h2 : Hp} {v : PV} (hr : localRead o = true) (hl : Live h h2) (he : evalOp P mu o ⟨sl, h⟩ = some (v, h')) : h' = h ∧ evalOp P mu o ⟨sl, h2⟩ = some (v, h2) := by
  unfold localRead at hr
  split at hr <;> try (cases hr; done)
  · rename_i t x hop
    unfold evalOp at he ⊢
    simp only [hop] at he ⊢
    obtain ⟨e1, e2⟩ := still_some he
    exact ⟨e2, by rw [loadPV_live hl]; exact still_mk e1⟩
  · rename_i x hop
    unfold evalOp at he ⊢
    simp only [hop] at he ⊢
    split at he
    · rename_i cs hx
      cases he
      exact ⟨rfl, by simp⟩
    · rename_i id n off hx
      split at he
      · rename_i hv
        cases he
        refine ⟨rfl, ?_⟩
        rw [if_pos (by rw [valid_live hl]; exact hv)]
      · cases he
    · cases he
  · rename_i t x i hop
    unfold evalOp at he ⊢
    simp only [hop] at he ⊢
    obtain ⟨e1, e2⟩ := still_some he
    exact ⟨e2, by rw [fieldAddrPV_live hl]; exact still_mk e1⟩
  · rename_i t x i hop
    unfold evalOp at he ⊢
    simp only [hop] at he ⊢
    obtain ⟨e1, e2⟩ := still_some he
    exact ⟨e2, by rw [indexAddrPV_live hl]; exact still_mk e1⟩
theorem localRead_call {o : Oper} (hr : localRead o = true) (sl : Sl) : callPart sl o = none := by
  unfold localRead at hr
  unfold callPart
  cases hop : o.op <;> simp only [hop] at hr <;> first | rfl | (simp at hr)
theorem Out.read {ops : Array Oper} {o : Oper} {s : St} {v : PV} {h' : Hp} (h : Out P mu ops.toList o s v h') (hr : localRead o = true) :
    h' = s.hp ∧ ∀ s2 : St, SameAt ops o s.sl s2.sl → Live s.hp s2.hp → Out P mu ops.toList o s2 v s2.hp := by
  rcases h with ⟨h1, h2⟩ | ⟨h1, rfl, rfl⟩
  · unfold OutW at h2
    rw [localRead_call hr] at h2
    obtain ⟨h3, h4⟩ := h2
    obtain ⟨sl, hp⟩ := s
    refine ⟨(evalOp_live hr (Live.refl _) h4).1, fun s2 hs hl => .inl ⟨(guardRun_congr hs) ▸ h1, ?_⟩⟩
    unfold OutW
    rw [localRead_call hr]
    refine ⟨(bare_congr hs) ▸ h3, ?_⟩
    obtain ⟨sl2, hp2⟩ := s2
    rw [← evalOp_congr hs]
    exact (evalOp_live hr hl h4).2
  · exact ⟨rfl, fun s2 hs _ => .inr ⟨(guardRun_congr hs) ▸ h1, rfl, rfl⟩⟩
theorem slicePV_live {t : TypeId} {x v : PV} {lo hi : Option PV} {h h' : Hp} (he : slicePV P t x lo hi h = some (v, h')) : Live h h' := by
  unfold slicePV at he
  repeat' split at he
  all_goals first
    | (cases he; done)
    | (simp only [Option.some.injEq, Prod.mk.injEq] at he; obtain ⟨_, rfl⟩ := he; first | exact Live.refl _ | exact Live.frz _ _)
theorem Out.part {ops : Array Oper} {o : Oper} {s : St} {v : PV} {h' : Hp} (h : Out P mu ops.toList o s v h') (hr : sliceB o = true) : Live s.hp h' := by
  rcases h with ⟨h1, h2⟩ | ⟨h1, rfl, rfl⟩
  · unfold sliceB at hr
    split at hr <;> try (cases hr; done)
    rename_i t x lo hi mx hop
    unfold OutW at h2
    have hc : callPart s.sl o = none := by unfold callPart; simp only [hop]
    rw [hc] at h2
    obtain ⟨_, h4⟩ := h2
    unfold evalOp at h4
    simp only [hop] at h4
    cases mx with
    | none => exact slicePV_live h4
    | some m => cases h4
  · exact Live.refl _
theorem Out.len {ops : Array Oper} {o : Oper} {s : St} {v : PV} {h' : Hp} (h : Out P mu ops.toList o s v h') (hl : lenRead mu o = true) (h89 : mu 8999999 = true) :
    h' = s.hp ∧ ∀ s2 : St, SameAt ops o s.sl s2.sl → (∀ c, mu (8000000 + c) = false → s2.hp c = s.hp c) → Out P mu ops.toList o s2 v s2.hp := by
  unfold lenRead at hl
  split at hl <;> try (cases hl; done)
  rename_i c hop
  split at hl <;> try (cases hl; done)
  rename_i x hc1 hc2
  have hcp : ∀ sl, callPart sl o = none := fun sl => by unfold callPart; simp only [hop, hc1]
  rcases h with ⟨h1, h2⟩ | ⟨h1, rfl, rfl⟩
  · unfold OutW at h2
    rw [hcp] at h2
    obtain ⟨h3, h4⟩ := h2
    have haw : awY mu (ev s.sl x) = true := by
      have : awayO mu o s.sl = true := by simp only [bare, Bool.and_eq_true] at h3; exact h3.1.1
      unfold awayO at this
      simp only [hop, hc1, hc2, hl, Bool.not_true, Bool.false_or] at this
      exact this
    have hev : ∀ h : Hp, evalOp P mu o ⟨s.sl, h⟩ = (match c.argTypes.toList with
        | t :: _ => if isStrB P t then (match ev s.sl x with | .t (.str b) => some (.t (.int .i64 b.size), h) | _ => none) else if (elemB P t).isSome then still (lenPV h (ev s.sl x)) h else none
        | [] => none) := fun h => by
      unfold evalOp
      simp only [hop, hc1, hc2]
      cases c.argTypes.toList <;> rfl
    have key : ∀ h2 : Hp, (∀ c, mu (8000000 + c) = false → h2 c = s.hp c) → lenPV h2 (ev s.sl x) = lenPV s.hp (ev s.sl x) := by
      intro h2 hh
      cases hx : ev s.sl x with
      | rf id n =>
        rw [hx] at haw
        unfold awY at haw
        simp only [h89, Bool.not_true, Bool.false_or, PV.site, Bool.not_eq_true'] at haw
        have e : valid h2 id n = valid s.hp id n := by unfold valid hget; rw [hh _ haw]
        show (if valid h2 id n = true then some (PV.t (.int .i64 n)) else none) = (if valid s.hp id n = true then some (PV.t (.int .i64 n)) else none)
        rw [e]
      | t y => cases y <;> rfl
      | _ => rfl
    have fin : ∀ h2 : Hp, (∀ c, mu (8000000 + c) = false → h2 c = s.hp c) → h' = s.hp ∧ evalOp P mu o ⟨s.sl, h2⟩ = some (v, h2) := by
      intro h2 hh
      have h4' : evalOp P mu o ⟨s.sl, s.hp⟩ = some (v, h') := h4
      rw [hev] at h4'
      rw [hev]
      cases hat : c.argTypes.toList with
      | nil => rw [hat] at h4'; simp at h4'
      | cons t ts =>
        rw [hat] at h4'
        simp only at h4' ⊢
        split
        · rename_i hs
          rw [if_pos hs] at h4'
          split at h4'
          · rename_i b hb
            simp only [Option.some.injEq, Prod.mk.injEq] at h4'
            exact ⟨h4'.2.symm, by simp [hb, h4'.1]⟩
          · cases h4'
        · rename_i hs
          rw [if_neg hs] at h4'
          split
          · rename_i he2
            rw [if_pos he2] at h4'
            obtain ⟨g1, g2⟩ := still_some h4'
            exact ⟨g2, by rw [key h2 hh]; exact still_mk g1⟩
          · rename_i he2
            rw [if_neg he2] at h4'; cases h4'
    refine ⟨(fin s.hp (fun _ _ => rfl)).1, fun s2 hs hh => .inl ⟨(guardRun_congr hs) ▸ h1, ?_⟩⟩
    unfold OutW
    rw [hcp]
    refine ⟨(bare_congr hs) ▸ h3, ?_⟩
    have := (fin s2.hp hh).2
    obtain ⟨sl2, hp2⟩ := s2
    rw [← evalOp_congr hs]; exact this
  · exact ⟨rfl, fun s2 hs _ => .inr ⟨(guardRun_congr hs) ▸ h1, rfl, rfl⟩⟩
theorem Step.swap {ops : Array Oper} {x y : Oper} {s s1 s2 : St} (hi : indepB mu ops x y = true) (h1 : Step P mu ops.toList x s s1) (h2 : Step P mu ops.toList y s1 s2) :
    ∃ t, Step P mu ops.toList y s t ∧ Step P mu ops.toList x t s2 := by
  simp only [indepB, Bool.and_eq_true] at hi
  obtain ⟨hap, hfr⟩ := hi
  obtain ⟨a1, a2, a3⟩ := Oper.apart_spec hap
  obtain ⟨vx, hx, ox, rfl⟩ := h1
  obtain ⟨vy, hy, oy, rfl⟩ := h2
  have sy : SameAt ops y (St.put { s with hp := hx } x.dst vx).sl s.sl := sameAt_put a1
  have sx : ∀ h v, SameAt ops x s.sl (St.put { s with hp := h } y.dst v).sl := fun h v t ht => (sameAt_put (s := s) (h := h) (v := v) a3 t ht).symm
  have fin : ∀ (h : Hp) (t : St), t = St.put { s with hp := h } y.dst vy → Out P mu ops.toList y s vy h → (∀ h'', Out P mu ops.toList x t vx h'' → h'' = hy → ∃ t, Step P mu ops.toList y s t ∧ Step P mu ops.toList x t (St.put { (St.put { s with hp := hx } x.dst vx) with hp := hy } y.dst vy)) := by
    intro h t ht o1 h'' o2 he
    subst ht; subst he
    refine ⟨_, ⟨vy, h, o1, rfl⟩, vx, h'', o2, ?_⟩
    rw [put_put, put_put s h, put_comm _ _ _ _ _ a2]
  rw [Bool.or_eq_true, Bool.or_eq_true, Bool.or_eq_true, Bool.or_eq_true, Bool.or_eq_true, Bool.or_eq_true] at hfr
  rcases hfr with (((((hfr | hst) | hap2) | hex) | hfz) | hln) | hkp
  rotate_left 6
  · -- a call that leaves a site as it is; then a load from there
    simp only [kpFree, Bool.and_eq_true] at hkp
    obtain ⟨⟨⟨hcb, h49⟩, hlb⟩, hm⟩ := hkp
    have hlr : localRead y = true := by
      unfold loadB at hlb
      split at hlb <;> try (cases hlb; done)
      rename_i hop
      unfold localRead; rw [hop]
    obtain ⟨e1, _⟩ := oy.read hlr
    rw [put_hp] at e1
    cases hh : home mu y with
    | none => rw [hh] at hm; cases hm
    | some d =>
      rw [hh] at hm
      simp only at hm
      have hkeep : hx d = s.hp d := by
        rcases ox with ⟨h1, h2⟩ | ⟨h1, rfl, rfl⟩
        · unfold OutW at h2
          obtain ⟨g0, args0, hc0, hg0⟩ := callU_spec hcb s.sl
          cases hc : callPart s.sl x with
          | none =>
            exfalso
            rw [hc] at hc0; cases hc0
          | some q =>
            rw [hc] at h2
            cases q with
            | none => exact h2.elim
            | some q =>
              obtain ⟨g, args⟩ := q
              rcases h2 with ⟨ts, r, t1, t2, rfl, rfl⟩ | ⟨t0, t1⟩ | ⟨t0, ts, r, t1, t2, t3, rfl, rfl⟩
              · rfl
              · have hgg : g = g0 := by rw [hc] at hc0; injection hc0 with hc0; injection hc0 with hc0; injection hc0
                exact (t1.2 h49 (hgg ▸ hg0)).2.1 d hm
              · rfl
        · rfl
      obtain ⟨L, g1, g2⟩ := oy.home hh
      rw [put_hp] at g1 g2
      have hL : L = s.hp d := by
        have := congrFun g1 d
        rw [e1] at this
        simp only [upd_eq] at this
        rw [← this, hkeep]
      have oy' := g2 s sy hkeep.symm
      rw [hL, upd_self] at oy'
      exact fin s.hp _ rfl oy' hx (ox.congr (sx _ _) (put_hp _ _ _ _)) e1.symm
  rotate_left 5
  · -- an object is made; then a length is asked for
    simp only [lenFree, Bool.and_eq_true, beq_iff_eq] at hln
    obtain ⟨⟨⟨hk2, h89⟩, hm⟩, hlr⟩ := hln
    obtain ⟨e1, e2⟩ := oy.len hlr h89
    rw [put_hp] at e1
    rcases ox.kind with z | ⟨ky, z⟩ | ⟨ky, z⟩ | ky
    · obtain ⟨f1, f2⟩ := z
      have oy' : Out P mu ops.toList y s vy hy := oy.congr sy (by rw [put_hp, f1])
      refine fin hy _ rfl oy' hy ?_ rfl
      have := f2 (St.put { s with hp := hy } y.dst vy) (sx _ _)
      rwa [put_hp] at this
    · omega
    · obtain ⟨c, ob, mk, k1, k2, k3, k4⟩ := z
      rw [k1] at hm
      simp only at hm
      have oy' := e2 s sy (fun c' hc => by
        rw [put_hp, k3]
        unfold hnew
        exact (upd_ne _ _ _ _ (fun e => by rw [e, hm] at hc; cases hc)).symm)
      refine fin s.hp _ rfl oy' _ (by
        have := k4 (St.put { s with hp := s.hp } y.dst vy) (sx _ _)
        rw [put_hp] at this
        rw [← k2] at this
        exact this) ?_
      rw [e1, k3]
    · omega
  rotate_left 4
  · -- a part of a row, and something that is read
    simp only [frFree, Bool.or_eq_true, Bool.and_eq_true] at hfz
    rcases hfz with ⟨hx1, hy1⟩ | ⟨hx1, hy1⟩
    · obtain ⟨e1, e2⟩ := oy.read hy1
      rw [put_hp] at e1 e2
      have hl := ox.part hx1
      refine fin s.hp _ rfl (e2 s sy hl.symm) hx (ox.congr (sx _ _) (put_hp _ _ _ _)) e1.symm
    · obtain ⟨e1, e2⟩ := ox.read hx1
      have oy' : Out P mu ops.toList y s vy hy := oy.congr sy (by rw [put_hp, e1])
      have hl := oy'.part hy1
      refine fin hy _ rfl oy' hy ?_ rfl
      have := e2 (St.put { s with hp := hy } y.dst vy) (sx _ _) (by rw [put_hp]; exact hl)
      rwa [put_hp] at this
  rotate_left 3
  · -- an object that may be made ahead of a call
    simp only [exFree, Bool.and_eq_true, beq_iff_eq] at hex
    obtain ⟨⟨⟨⟨hcb, hk3⟩, h49⟩, hky⟩, hm⟩ := hex
    rcases oy.kind with z | ⟨ky, z⟩ | ⟨ky, z⟩ | ky
    · obtain ⟨e1, e2⟩ := z
      rw [put_hp] at e1
      refine fin s.hp _ rfl (e2 s sy) hx (ox.congr (sx _ _) (put_hp _ _ _ _)) e1.symm
    · omega
    · obtain ⟨c, ob, mk, k1, k2, k3, k4⟩ := z
      rw [put_hp] at k2 k3
      rw [k1] at hm
      simp only at hm
      have key : hnext hx c = hnext s.hp c ∧ ∀ s2 : St, SameAt ops x s.sl s2.sl → s2.hp = hnew s.hp c ob → Out P mu ops.toList x s2 vx (hnew hx c ob) := by
        rcases ox with ⟨h1, h2⟩ | ⟨h1, rfl, rfl⟩
        · unfold OutW at h2
          obtain ⟨g0, args0, hc0, hg0⟩ := callU_spec hcb s.sl
          cases hc : callPart s.sl x with
          | none =>
            exfalso
            rw [hc] at hc0; cases hc0
          | some q =>
            rw [hc] at h2
            cases q with
            | none => exact h2.elim
            | some q =>
              obtain ⟨g, args⟩ := q
              have mk1 : ∀ s2 : St, SameAt ops x s.sl s2.sl → OutCall P mu x s2 g args vx (hnew hx c ob) → Out P mu ops.toList x s2 vx (hnew hx c ob) := fun s2 hs ho => by
                refine .inl ⟨(guardRun_congr hs) ▸ h1, ?_⟩
                unfold OutW
                rw [← callPart_congr hs, hc]
                exact ho
              rcases h2 with ⟨ts, r, t1, t2, rfl, rfl⟩ | ⟨t0, t1⟩ | ⟨t0, ts, r, t1, t2, t3, rfl, rfl⟩
              · exact ⟨rfl, fun s2 hs he => mk1 s2 hs (.inl ⟨ts, r, t1, t2, rfl, he.symm⟩)⟩
              · obtain ⟨u1, u2⟩ := t1
                have hgg : g = g0 := by rw [hc] at hc0; injection hc0 with hc0; injection hc0 with hc0; injection hc0
                obtain ⟨u3, u5, u4⟩ := u2 h49 (hgg ▸ hg0)
                have hl := u3 c hm
                refine ⟨by simp only [hnext, hl], fun s2 hs he => mk1 s2 hs (.inr (.inl ⟨t0, ?_⟩))⟩
                rw [he]
                refine ⟨u4 [(c, ob)] (fun p hp => by simp at hp; subst hp; exact hm), fun _ _ => ⟨fun c' hc' => ?_, fun c' hc' => by
                  have e := u5 c' hc'
                  unfold hnew upd
                  split
                  · rename_i e2; subst e2; rw [e]
                  · exact e, fun l hl' => ?_⟩⟩
                · simp only [hnew, upd]
                  split
                  · simp [hl]
                  · exact u3 c' hc'
                · exact u4 ((c, ob) :: l) (fun p hp => by
                    rcases List.mem_cons.1 hp with rfl | hp
                    · exact hm
                    · exact hl' p hp)
              · refine ⟨rfl, fun s2 hs he => mk1 s2 hs (.inr (.inr ⟨t0, ts, r, ?_, t2, t3, rfl, he.symm⟩))⟩
                rw [he]
                exact mapO_sub (fun id o ho => by
                  rw [hget_hnew, if_neg (fun e => by rw [e, hget_hnext] at ho; cases ho)]
                  exact ho) t1
        · exact ⟨rfl, fun s2 hs he => .inr ⟨(guardRun_congr hs) ▸ h1, rfl, he.symm⟩⟩
      obtain ⟨hn, hxo⟩ := key
      have oy' : Out P mu ops.toList y s vy (hnew s.hp c ob) := by
        have := k4 s sy
        rw [k2, hn]; exact this
      refine fin (hnew s.hp c ob) _ rfl oy' _ (hxo (St.put { s with hp := hnew s.hp c ob } y.dst vy) (sx _ _) (put_hp _ _ _ _)) ?_
      rw [k3]
    · omega
  rotate_left 2
  · -- a row that is kept apart
    simp only [apFree, Bool.and_eq_true, beq_iff_eq, Bool.or_eq_true, Bool.not_eq_true'] at hap2
    rcases hap2 with ⟨⟨hk4, h39⟩, hy2⟩ | ⟨⟨⟨⟨hk2, h39⟩, hrs⟩, hk1⟩, hlr⟩
    rotate_left 1
    · -- an object is made at a site of rows kept apart; then something else is read
      obtain ⟨e1, e2⟩ := oy.rd hk1 hlr h39
      rw [put_hp] at e1
      rcases ox.kind with z | ⟨ky, z⟩ | ⟨ky, z⟩ | ky
      · obtain ⟨f1, f2⟩ := z
        have oy' : Out P mu ops.toList y s vy hy := oy.congr sy (by rw [put_hp, f1])
        refine fin hy _ rfl oy' hy ?_ rfl
        have := f2 (St.put { s with hp := hy } y.dst vy) (sx _ _)
        rwa [put_hp] at this
      · omega
      · obtain ⟨c, ob, mk, k1, k2, k3, k4⟩ := z
        have hmk : mu (3000000 + c) = true := by rw [k1] at hrs; simpa only [resB] using hrs
        have oy' := e2 s sy (fun c' hc => by
          rw [put_hp, k3]
          unfold hnew
          exact (upd_ne _ _ _ _ (fun e => by rw [e, hmk] at hc; cases hc)).symm)
        refine fin s.hp _ rfl oy' _ (by
          have := k4 (St.put { s with hp := s.hp } y.dst vy) (sx _ _)
          rw [put_hp] at this
          rw [← k2] at this
          exact this) ?_
        rw [e1, k3]
      · omega
    rcases ox.ap hk4 h39 with ⟨f1, f2⟩ | ⟨d, L, g2, g3, g4⟩
    · have oy' : Out P mu ops.toList y s vy hy := oy.congr sy (by rw [put_hp, f1])
      refine fin hy _ rfl oy' hy ?_ rfl
      have := f2 (St.put { s with hp := hy } y.dst vy) (sx _ _)
      rwa [put_hp] at this
    · rcases hy2 with ⟨hk1, hlr⟩ | ⟨hk2, hrs⟩
      · obtain ⟨e1, e2⟩ := oy.rd hk1 hlr h39
        rw [put_hp] at e1
        have oy' := e2 s sy (fun c hc => by
          rw [put_hp, g3, upd_ne]
          intro e; rw [e, g2] at hc; cases hc)
        refine fin s.hp _ rfl oy' _ (g4 (St.put { s with hp := s.hp } y.dst vy) (sx _ _) (by rw [put_hp]) (by rw [put_hp]; exact fun _ _ h => h)) ?_
        rw [put_hp, e1, g3]
      · rcases oy.kind with z | ⟨ky, z⟩ | ⟨ky, z⟩ | ky
        · obtain ⟨e1, e2⟩ := z
          rw [put_hp] at e1
          refine fin s.hp _ rfl (e2 s sy) hx (ox.congr (sx _ _) (put_hp _ _ _ _)) e1.symm
        · omega
        · obtain ⟨c, ob, mk, k1, k2, k3, k4⟩ := z
          rw [put_hp] at k2 k3
          have hcd : c ≠ d := by
            intro e; subst e
            rw [k1] at hrs; simp only [resB] at hrs; rw [g2] at hrs; cases hrs
          have hxc : hx c = s.hp c := by rw [g3]; exact upd_ne _ _ _ _ hcd
          have hn : hnext hx c = hnext s.hp c := by simp only [hnext, hxc]
          have oy' : Out P mu ops.toList y s vy (hnew s.hp c ob) := by
            have := k4 s sy
            rw [k2, hn]; exact this
          refine fin (hnew s.hp c ob) _ rfl oy' _ (g4 (St.put { s with hp := hnew s.hp c ob } y.dst vy) (sx _ _) (by rw [put_hp]; exact upd_ne _ _ _ _ (Ne.symm hcd)) (by
            rw [put_hp]
            intro id o ho
            rw [hget_hnew, if_neg (fun e => by rw [e, hget_hnext] at ho; cases ho)]
            exact ho)) ?_
          rw [put_hp, k3]
          simp only [hnew]
          rw [hxc, g3, upd_comm _ _ _ hcd]
        · omega
  rotate_left
  · -- two sites
    unfold hsite at hst
    split at hst <;> try (simp at hst; done)
    rename_i dx dy hdx hdy
    have hne : dx ≠ dy := by simpa using hst
    obtain ⟨Lx, gx, fx⟩ := ox.home hdx
    obtain ⟨Ly, gy, fy⟩ := oy.home hdy
    rw [put_hp] at gy fy
    have hxy : hx dy = s.hp dy := by rw [gx]; exact upd_ne _ _ _ _ (Ne.symm hne)
    have oy' := fy s sy hxy.symm
    refine fin (upd s.hp dy Ly) _ rfl oy' _ (fx (St.put { s with hp := upd s.hp dy Ly } y.dst vy) (sx _ _) (by rw [put_hp]; exact upd_ne _ _ _ _ hne)) ?_
    rw [put_hp, gy, gx, upd_comm _ _ _ hne]
  rcases oy.kind with z | ⟨ky, z⟩ | ⟨ky, z⟩ | ky
  · -- y does nothing with the heap
    obtain ⟨e1, e2⟩ := z
    rw [put_hp] at e1
    refine fin s.hp _ rfl (e2 s sy) hx (ox.congr (sx _ _) (put_hp _ _ _ _)) e1.symm
  · rcases ox.kind with zx | ⟨kx, zx⟩ | ⟨kx, zx⟩ | kx
    · obtain ⟨f1, f2⟩ := zx
      have oy' : Out P mu ops.toList y s vy hy := oy.congr sy (by rw [put_hp, f1])
      refine fin hy _ rfl oy' hy ?_ rfl
      have := f2 (St.put { s with hp := hy } y.dst vy) (sx _ _)
      rwa [put_hp] at this
    · obtain ⟨f1, f2⟩ := zx
      have oy' : Out P mu ops.toList y s vy hy := oy.congr sy (by rw [put_hp, f1])
      have hy' : hy = s.hp := by rw [z.1, put_hp, f1]
      refine fin hy _ rfl oy' hy ?_ rfl
      have := f2 (St.put { s with hp := hy } y.dst vy) (sx _ _) (by rw [put_hp, hy']; exact fun _ _ h => h)
      rwa [put_hp] at this
    · simp [hfree, ky, kx] at hfr
    · simp [hfree, ky] at hfr
      exact absurd hfr (by omega)
  · rcases ox.kind with zx | ⟨kx, zx⟩ | ⟨kx, zx⟩ | kx
    · obtain ⟨f1, f2⟩ := zx
      have oy' : Out P mu ops.toList y s vy hy := oy.congr sy (by rw [put_hp, f1])
      refine fin hy _ rfl oy' hy ?_ rfl
      have := f2 (St.put { s with hp := hy } y.dst vy) (sx _ _)
      rwa [put_hp] at this
    · obtain ⟨f1, f2⟩ := zx
      have oy' : Out P mu ops.toList y s vy hy := oy.congr sy (by rw [put_hp, f1])
      obtain ⟨d, ob, mk, g1, g2, g3, g4⟩ := z
      rw [put_hp, f1] at g3
      refine fin hy _ rfl oy' hy ?_ rfl
      have := f2 (St.put { s with hp := hy } y.dst vy) (sx _ _) (by
        rw [put_hp, g3]
        intro id o ho
        rw [hget_hnew, if_neg (fun e => by rw [e, hget_hnext] at ho; cases ho)]
        exact ho)
      rwa [put_hp] at this
    · obtain ⟨d, ob, mk, g1, g2, g3, g4⟩ := z
      obtain ⟨d', ob', mk', f1, f2, f3, f4⟩ := zx
      have hdd : d' ≠ d := fun e => a2 d' f1 (by rw [g1, e])
      rw [put_hp, f3] at g2 g3
      have hn : hnext (hnew s.hp d' ob') d = hnext s.hp d := by simp [hnext, hnew, upd_ne _ _ _ _ (Ne.symm hdd)]
      have oy' : Out P mu ops.toList y s vy (hnew s.hp d ob) := by
        have := g4 s sy
        rw [g2, hn]; exact this
      have hn2 : hnext (hnew s.hp d ob) d' = hnext s.hp d' := by simp [hnext, hnew, upd_ne _ _ _ _ hdd]
      have ox' := f4 (St.put { s with hp := hnew s.hp d ob } y.dst vy) (sx _ _)
      rw [put_hp, hn2, ← f2] at ox'
      refine fin (hnew s.hp d ob) _ rfl oy' _ ox' ?_
      rw [g3]
      simp only [hnew]
      rw [upd_ne _ _ _ _ hdd, upd_ne _ _ _ _ (Ne.symm hdd), upd_comm _ _ _ hdd]
    · simp [hfree, ky] at hfr
      exact absurd hfr (by omega)
  · rcases ox.kind with zx | ⟨kx, zx⟩ | ⟨kx, zx⟩ | kx
    · obtain ⟨f1, f2⟩ := zx
      have oy' : Out P mu ops.toList y s vy hy := oy.congr sy (by rw [put_hp, f1])
      refine fin hy _ rfl oy' hy ?_ rfl
      have := f2 (St.put { s with hp := hy } y.dst vy) (sx _ _)
      rwa [put_hp] at this
    · simp [hfree, kx] at hfr
      exact absurd hfr (by omega)
    · simp [hfree, kx] at hfr
      exact absurd hfr (by omega)
    · simp [hfree] at hfr
      exact absurd hfr (by omega)
end
end Go.Vm
end
section
namespace Go.Vm
open Go
section
variable {P : Program} {mu : Nat → Bool}
def opAt (ops : Array Oper) (i : Nat) : Oper := ops.toList.getD i default
def StepsI (P : Program) (mu : Nat → Bool) (ops : Array Oper) : List Nat → St → St → Prop
  | [], s, s' => s' = s
  | i :: r, s, s' => ∃ s1, Step P mu ops.toList (opAt ops i) s s1 ∧ StepsI P mu ops r s1 s'
theorem Steps.toI {ops : Array Oper} : ∀ (l : List Oper) (k : Nat) (s s' : St), (∀ j, l[j]? = ops.toList[k + j]?) → Steps P mu ops.toList l s s' → StepsI P mu ops (List.range' k l.length) s s'
  | [], k, s, s', _, h => h
  | o :: l, k, s, s', hl, h => by
    obtain ⟨s1, h1, h2⟩ := h
    have h0 : ops.toList[k]? = some o := by simpa using (hl 0).symm
    refine ⟨s1, by simp only [opAt, List.getD, h0, Option.getD_some]; exact h1, ?_⟩
    exact Steps.toI l (k + 1) s1 s' (fun j => by have := hl (j + 1); simpa [Nat.add_assoc, Nat.add_comm 1 j] using this) h2
theorem StepsI.pull {ops : Array Oper} {j : Nat} : ∀ (pre post : List Nat) (s s' : St), (∀ i ∈ pre, indepB mu ops (opAt ops i) (opAt ops j) = true) → StepsI P mu ops (pre ++ j :: post) s s' →
    ∃ t, Step P mu ops.toList (opAt ops j) s t ∧ StepsI P mu ops (pre ++ post) t s'
  | [], post, s, s', _, h => h
  | i :: pre, post, s, s', hi, h => by
    obtain ⟨s1, h1, h2⟩ := h
    obtain ⟨t, h3, h4⟩ := StepsI.pull pre post s1 s' (fun k hk => hi k (by simp [hk])) h2
    obtain ⟨u, h5, h6⟩ := Step.swap (hi i (by simp)) h1 h3
    exact ⟨u, h5, t, h6, h4⟩
theorem preds_listed {ops : Array Oper} {listed : Array Bool} (hcl : ∀ (j : Nat) (o : Oper), ops.toList[j]? = some o → listed.getD j false = true → ∀ e ∈ o.after, Region.binds .any e = true → listed.getD e.on false = true) :
    ∀ (l : List Oper) (acc : List Nat), (∀ j, l[j]? = ops.toList[acc.length + j]?) →
      (∀ (k : Nat), k < acc.length → ∀ i, (acc.getD k 0).testBit i = true → listed.getD k false = true → listed.getD i false = true) →
      ∀ (k : Nat), ∀ i, ((l.foldl (fun acc (o : Oper) => acc ++ [o.after.toList.foldl (fun s e => if Region.binds .any e then s ||| 2 ^ e.on ||| acc.getD e.on 0 else s) 0]) acc).getD k 0).testBit i = true →
        k < acc.length + l.length → listed.getD k false = true → listed.getD i false = true
  | [], acc, _, ha, k, i, hb, hk, hlk => ha k (by simpa using hk) i hb hlk
  | o :: l, acc, hl, ha, k, i, hb, hk, hlk => by
    simp only [List.foldl_cons] at hb
    refine preds_listed hcl l (acc ++ [o.after.toList.foldl (fun s e => if Region.binds .any e then s ||| 2 ^ e.on ||| acc.getD e.on 0 else s) 0]) (fun j => by
      have := hl (j + 1)
      simp only [List.length_append, List.length_cons, List.length_nil, Nat.zero_add]
      simpa [Nat.add_assoc, Nat.add_comm 1 j] using this) ?_ k i hb (by simp at hk ⊢; omega) hlk
    intro k hk i hb hlk
    simp only [List.length_append, List.length_cons, List.length_nil, Nat.zero_add] at hk
    by_cases hka : k < acc.length
    · have : (acc ++ [o.after.toList.foldl (fun s e => if Region.binds .any e then s ||| 2 ^ e.on ||| acc.getD e.on 0 else s) 0]).getD k 0 = acc.getD k 0 := by
        simp [List.getD, List.getElem?_append_left hka]
      rw [this] at hb
      exact ha k hka i hb hlk
    · have hke : k = acc.length := by omega
      subst hke
      have h0 : ops.toList[acc.length]? = some o := by simpa using (hl 0).symm
      have hcl' := hcl _ o h0 hlk
      have hg : (acc ++ [o.after.toList.foldl (fun s e => if Region.binds .any e then s ||| 2 ^ e.on ||| acc.getD e.on 0 else s) 0]).getD acc.length 0 = o.after.toList.foldl (fun s e => if Region.binds .any e then s ||| 2 ^ e.on ||| acc.getD e.on 0 else s) 0 := by
        simp [List.getD]
      rw [hg] at hb
      have fold : ∀ (es : List Edge) (s : Nat), (∀ e ∈ es, Region.binds .any e = true → listed.getD e.on false = true) → (∀ i, s.testBit i = true → listed.getD i false = true) →
          ∀ i, (es.foldl (fun s e => if Region.binds .any e then s ||| 2 ^ e.on ||| acc.getD e.on 0 else s) s).testBit i = true → listed.getD i false = true := by
        intro es
        induction es with
        | nil => intro s _ hs i hb; exact hs i hb
        | cons e es ih =>
          intro s he hs i hb
          simp only [List.foldl_cons] at hb
          refine ih _ (fun e' he' => he e' (by simp [he'])) ?_ i hb
          intro i hb
          split at hb
          · rename_i hbd
            have hle := he e (by simp) hbd
            rw [Nat.testBit_or, Nat.testBit_or, Bool.or_eq_true, Bool.or_eq_true] at hb
            rcases hb with (hb | hb) | hb
            · exact hs i hb
            · rw [Nat.testBit_two_pow] at hb
              have : e.on = i := by simpa using hb
              rw [← this]; exact hle
            · by_cases hea : e.on < acc.length
              · exact ha e.on hea i hb hle
              · rw [show acc.getD e.on 0 = 0 by simp [List.getD, List.getElem?_eq_none (Nat.le_of_not_lt hea)]] at hb
                simp at hb
          · exact hs i hb
      exact fold o.after.toList 0 (fun e he hbd => hcl' e (by simpa using he) hbd) (fun i hb => by simp at hb) i hb
theorem drawOK_spec {ops : Array Oper} (h : drawOK mu ops = true) (j : Nat) (oj : Oper) (hj : ops.toList[j]? = some oj) :
    (∀ e ∈ oj.after, Region.binds .any e = true → e.on < j) ∧ ∀ (i : Nat) (oi : Oper), i < j → ops.toList[i]? = some oi → ((preds ops.toList).getD j 0).testBit i = true ∨ indepB mu ops oi oj = true := by
  simp only [drawOK, Bool.and_eq_true, List.all_eq_true] at h
  obtain ⟨hlen, hall⟩ := h
  have hz : (oj, j) ∈ ops.toList.zipIdx := by
    rw [List.mem_iff_getElem?]
    exact ⟨j, by simp [List.getElem?_zipIdx, hj]⟩
  have h1 := hall _ hz
  simp only [Bool.and_eq_true, List.all_eq_true, Bool.or_eq_true, Bool.not_eq_true', decide_eq_true_eq] at h1
  refine ⟨fun e he hb => ?_, fun i oi hij hi => ?_⟩
  · rcases h1.1 e (by simpa using he) with h | h
    · rw [hb] at h; cases h
    · exact h
  · refine h1.2 (oi, i) ?_
    rw [List.mem_iff_getElem?]
    refine ⟨i, ?_⟩
    rw [List.getElem?_zipIdx, List.getElem?_take, if_pos hij, hi]
    simp
section
variable {A : Nat → Prop} {h0 : Hp} {μ0 : Id → Nat} {w0 : World} {N : Nat} {Q : Exit → Act → World → Prop}
theorem drawn_any {ops : Array Oper} (hd : ∀ o ∈ ops.toList, okDst N o = true) (hok : drawOK mu ops = true) {sf : St} (hQ : ∀ μ a w, Rel A h0 μ0 w0 N sf μ a w → Q .normal a w) :
    ∀ (fuel : Nat) (R : List Nat) (listed : Array Bool) (s : St) (μ : Id → Nat) (a : Act) (w : World), R.length ≤ fuel → listed.size = ops.size →
      (∀ j, j ∈ R ↔ (j < ops.size ∧ listed.getD j true = false)) → R.Pairwise (· < ·) →
      (∀ (j : Nat) (o : Oper), ops.toList[j]? = some o → listed.getD j false = true → ∀ e ∈ o.after, Region.binds .any e = true → listed.getD e.on false = true) →
      Rel A h0 μ0 w0 N s μ a w → StepsI P mu ops R s sf → wpAny P .any ops Q fuel listed a w := by
  have dflt : ∀ (listed : Array Bool) (j : Nat), j < listed.size → listed.getD j true = listed.getD j false := fun listed j hj => by simp [Array.getD, hj]
  have noReady : ∀ (R : List Nat) (listed : Array Bool), listed.size = ops.size → (∀ j, j ∈ R ↔ (j < ops.size ∧ listed.getD j true = false)) → R.Pairwise (· < ·) → Region.ready .any ops listed = [] → R = [] := by
    intro R listed hsz hR hp hr
    cases R with
    | nil => rfl
    | cons j r =>
      exfalso
      obtain ⟨hj1, hj2⟩ := (hR j).1 (by simp)
      have hjo : ops.toList[j]? = some ops[j] := by simp [hj1]
      have hmem : j ∈ Region.ready .any ops listed := by
        rw [mem_ready]
        refine ⟨hj2, ops[j], Array.getElem?_eq_getElem hj1, fun e he hb => ?_⟩
        have hlt := (drawOK_spec hok j _ hjo).1 e he hb
        cases hl : listed.getD e.on false with
        | true => rfl
        | false =>
          exfalso
          have : e.on ∈ j :: r := (hR e.on).2 ⟨by omega, by rw [dflt _ _ (by omega)]; exact hl⟩
          rcases List.mem_cons.1 this with h | h
          · omega
          · have := (List.pairwise_cons.1 hp).1 e.on h; omega
      rw [hr] at hmem; cases hmem
  intro fuel
  induction fuel with
  | zero =>
    intro R listed s μ a w hl hsz hR hp hcl hr hs
    have : R = [] := List.eq_nil_of_length_eq_zero (by omega)
    subst this
    have hs' : sf = s := hs
    subst hs'
    refine ⟨?_, hQ μ a w hr⟩
    cases hrd : Region.ready .any ops listed with
    | nil => rfl
    | cons j r =>
      have : j ∈ Region.ready .any ops listed := by rw [hrd]; simp
      rw [mem_ready] at this
      obtain ⟨h1, o, h2, _⟩ := this
      have := (hR j).2 ⟨(Array.getElem?_eq_some_iff.1 h2).1, h1⟩
      simp at this
  | succ fuel ih =>
    intro R listed s μ a w hl hsz hR hp hcl hr hs
    refine ⟨fun hrd => ?_, fun j hj => ?_⟩
    · have := noReady R listed hsz hR hp hrd
      subst this
      have hs' : sf = s := hs
      subst hs'
      exact hQ μ a w hr
    · obtain ⟨hun, oj, hoj, hall⟩ := mem_ready.1 hj
      have hjlt := (Array.getElem?_eq_some_iff.1 hoj).1
      have hjR : j ∈ R := (hR j).2 ⟨hjlt, hun⟩
      have hojl : ops.toList[j]? = some oj := by rw [Array.getElem?_toList]; exact hoj
      have hat : opAt ops j = oj := by simp only [opAt, List.getD, hojl, Option.getD_some]
      obtain ⟨pre, post, rfl⟩ := List.append_of_mem hjR
      -- with j listed, all is still closed
      have hcl' : ∀ (k : Nat) (o : Oper), ops.toList[k]? = some o → (listed.setIfInBounds j true).getD k false = true → ∀ e ∈ o.after, Region.binds .any e = true → (listed.setIfInBounds j true).getD e.on false = true := by
        intro k o hk hlk e he hb
        by_cases hkj : k = j
        · subst hkj
          rw [hojl] at hk; cases hk
          exact getD_set_true (hall e he hb)
        · rw [getD_set_ne false (Ne.symm hkj)] at hlk
          exact getD_set_true (hcl k o hk hlk e he hb)
      have hind : ∀ i ∈ pre, indepB mu ops (opAt ops i) (opAt ops j) = true := by
        intro i hi
        have hiR : i ∈ pre ++ j :: post := by simp [hi]
        obtain ⟨h1, h2⟩ := (hR i).1 hiR
        have hij : i < j := (List.pairwise_append.1 hp).2.2 i hi j (by simp)
        have hio : ops.toList[i]? = some ops[i] := by simp [h1]
        rcases (drawOK_spec hok j oj hojl).2 i ops[i] hij hio with hb | hb
        · exfalso
          have hnone : (preds ops.toList).getD j 0 = ((ops.toList.foldl (fun acc (o : Oper) => acc ++ [o.after.toList.foldl (fun s e => if Region.binds .any e then s ||| 2 ^ e.on ||| acc.getD e.on 0 else s) 0]) [])).getD j 0 := rfl
          rw [hnone] at hb
          have := preds_listed hcl' ops.toList [] (fun k => by simp) (fun k hk => by simp at hk) j i hb (by simpa using hjlt) (by
            have : j < listed.size := by omega
            simp [Array.getD, this])
          rw [getD_set_ne false (by omega)] at this
          rw [dflt _ _ (by omega)] at h2
          rw [h2] at this; cases this
        · have : opAt ops i = ops[i] := by simp only [opAt, List.getD, hio, Option.getD_some]
          rw [this, hat]; exact hb
      obtain ⟨t, h1, h2⟩ := StepsI.pull pre post s sf hind hs
      rw [hat] at h1
      refine wpOp_mono (fun a' w' ⟨s', μ', he, hr'⟩ => ?_) (opG_good (K := fun x => x = t) hoj hr hd (opG_step.2 ⟨t, h1, rfl⟩))
      subst he
      refine ih (pre ++ post) (listed.setIfInBounds j true) s' μ' a' w' (by simp at hl ⊢; omega) (by simpa using hsz) (fun k => ?_) ?_ hcl' hr' h2
      · have hk := hR k
        simp only [List.mem_append, List.mem_cons] at hk ⊢
        by_cases hkj : k = j
        · subst hkj
          have hno : ¬ (k ∈ pre ∨ k ∈ post) := by
            obtain ⟨p1, p2, p3⟩ := List.pairwise_append.1 hp
            rintro (h | h)
            · have := p3 k h k (by simp); omega
            · have := (List.pairwise_cons.1 p2).1 k h; omega
          have : (listed.setIfInBounds k true).getD k true = true := by
            have : k < listed.size := by omega
            simp [Array.getD, this]
          simp [hno, this]
        · rw [getD_set_ne true (Ne.symm hkj), ← hk]
          simp [hkj]
      · obtain ⟨p1, p2, p3⟩ := List.pairwise_append.1 hp
        exact List.pairwise_append.2 ⟨p1, (List.pairwise_cons.1 p2).2, fun x hx y hy => p3 x hx y (by simp [hy])⟩
theorem wp_good (hm : P.follows .mixedOrders = true) : ∀ (c : Code) (s : St) (K : Ex → St → Prop) (μ : Id → Nat) (a : Act) (w : World), codeOK mu N c = true → Rel A h0 μ0 w0 N s μ a w → wp P mu c s K →
    c.wp P (fun e a' w' => ∃ e' s' μ', e = Ex.of e' ∧ K e' s' ∧ Rel A h0 μ0 w0 N s' μ' a' w') a w := by
  intro c
  induction c with
  | skip => intro s K μ a w _ hr hK; exact wp_skip ⟨.normal, s, μ, rfl, hK, hr⟩
  | ret => intro s K μ a w _ hr hK; exact wp_ret ⟨.ret, s, μ, rfl, hK, hr⟩
  | exit n => intro s K μ a w _ hr hK; exact wp_exit ⟨.exit n, s, μ, rfl, hK, hr⟩
  | region id ops dr =>
    intro s K μ a w hok hr hK
    simp only [codeOK, Bool.and_eq_true, List.all_eq_true] at hok
    simp only [Vm.wp] at hK
    cases dr with
    | false =>
      refine wp_region ?_
      have hl : (List.range ops.size).length = ops.toList.length := by simp
      refine opsW_list hok.1 (List.range ops.size) ops.toList s μ a w hl (fun k i o h1 h2 => ?_) hr hK (fun s' μ' a' w' h1 h2 => ⟨.normal, s', μ', rfl, h1, h2⟩)
      have hk : k < ops.size := by
        have := (List.getElem?_eq_some_iff.1 h2).1; simpa using this
      rw [List.getElem?_range hk] at h1
      cases h1
      rw [← Array.getElem?_toList]; exact h2
    | true =>
      simp only [Bool.not_true, Bool.false_or, Bool.and_eq_true] at hok
      obtain ⟨sf, h1, h2⟩ := (opsW_steps ops.toList s).1 hK
      refine wp_region_any hm ?_
      have hr' : Rel A h0 μ0 w0 N s μ a { w with drawn := w.drawn + 1 } := by
        have hb : RowKit.Below w.heap.size w { w with drawn := w.drawn + 1 } := ⟨rfl, rfl, rfl, Nat.le_refl _, fun _ _ => rfl⟩
        obtain ⟨g1, g2⟩ := Ext.grow hr.hp hb
        exact ⟨hr.sz, hr.df, fun t => (hr.sl t).ext g2, g1, hr.ext.trans g2⟩
      have hI := Steps.toI ops.toList 0 s sf (fun j => by simp) h1
      rw [← List.range_eq_range', Array.length_toList] at hI
      refine drawn_any hok.1 hok.2.1 (fun μ a w h => ⟨.normal, sf, μ, rfl, h2, h⟩) ops.size (List.range ops.size) (Array.replicate ops.size false) s μ a _ (by simp) (by simp) (fun j => ?_) List.pairwise_lt_range (fun j o hj hl => ?_) hr' hI
      · simp only [List.mem_range]
        constructor
        · intro h; exact ⟨h, by simp [Array.getD, h]⟩
        · exact fun h => h.1
      · have : j < ops.size := by
          have := (List.getElem?_eq_some_iff.1 hj).1; simpa using this
        simp [Array.getD, this] at hl
  | seq x y ihx ihy =>
    intro s K μ a w hok hr hK
    simp only [codeOK, Bool.and_eq_true] at hok
    simp only [Vm.wp] at hK
    refine wp_seq (wp_mono (ihx s _ μ a w hok.1 hr hK) ?_)
    rintro e a' w' ⟨e', s', μ', rfl, hk, hr'⟩
    cases e' with
    | normal => exact ihy s' K μ' a' w' hok.2 hr' hk
    | exit n => exact ⟨.exit n, s', μ', rfl, hk, hr'⟩
    | ret => exact ⟨.ret, s', μ', rfl, hk, hr'⟩
  | cond c x y ihx ihy =>
    intro s K μ a w hok hr hK
    simp only [codeOK, Bool.and_eq_true] at hok
    simp only [Vm.wp] at hK
    split at hK
    · rename_i b hb
      have hc := ev_VR hr.sl c
      unfold boolOf at hb
      split at hb <;> simp at hb
      subst hb
      rename_i b hb
      rw [hb] at hc
      refine wp_cond_split (bool_of hc.tree) (fun h => ihx s K μ a w hok.1 hr (hK.1 h)) (fun h => ihy s K μ a w hok.2 hr (hK.2 h))
    · exact hK.elim
  | block id x ih =>
    intro s K μ a w hok hr hK
    simp only [codeOK] at hok
    simp only [Vm.wp] at hK
    refine wp_block (wp_mono (ih s _ μ a w hok hr hK) ?_)
    rintro e a' w' ⟨e', s', μ', rfl, hk, hr'⟩
    cases e' with
    | normal => exact ⟨.normal, s', μ', rfl, hk, hr'⟩
    | exit n =>
      simp only [Ex.of, Exit.inBlock]
      simp only at hk
      split
      · rename_i h; rw [if_pos h] at hk; exact ⟨.normal, s', μ', rfl, hk, hr'⟩
      · rename_i h; rw [if_neg h] at hk; exact ⟨.exit n, s', μ', rfl, hk, hr'⟩
    | ret => exact ⟨.ret, s', μ', rfl, hk, hr'⟩
  | loop x ih =>
    intro s K μ a w hok hr hK
    simp only [codeOK] at hok
    simp only [Vm.wp] at hK
    obtain ⟨I, n, hI0, hround⟩ := hK
    refine wp_loop_ghost (fun n a w => ∃ s μ, I n s ∧ Rel A h0 μ0 w0 N s μ a w) n ⟨s, μ, hI0, hr⟩ ?_
    rintro n a w ⟨s, μ, hI, hr⟩
    refine wp_mono (ih s _ μ a w hok hr (hround n s hI)) ?_
    rintro e a' w' ⟨e', s', μ', rfl, hk, hr'⟩
    cases e' with
    | normal =>
      obtain ⟨m, hlt, hm⟩ := hk
      exact ⟨m, hlt, s', μ', hm, hr'⟩
    | exit n => exact ⟨.exit n, s', μ', rfl, hk, hr'⟩
    | ret => exact ⟨.ret, s', μ', rfl, hk, hr'⟩
  | _ => intro s K μ a w hok; simp [codeOK] at hok
end
end
end Go.Vm
end
section
namespace Go.Vm
open Go
section
variable {P : Program} {mu : Nat → Bool} {A : Nat → Prop} {h : Hp} {μ : Id → Nat} {w : World}
theorem load_ptr {t : TypeId} {p v : PV} {u : Value} (hp : VR h μ w (LL A h μ) p u) (hl : loadPV P t p h = some v) : ∃ a, u = .pointer (some a) := by
  unfold loadPV at hl
  split at hl
  · cases hp; exact ⟨_, rfl⟩
  · cases hp; exact ⟨_, rfl⟩
  · split at hl <;> try (simp at hl; done)
    rename_i ho
    split at hl <;> try (simp at hl; done)
    rename_i hn
    exact ⟨_, hp.ad_val (by simp [valid, ho, hn.1])⟩
  · split at hl <;> try (simp at hl; done)
    rename_i ho
    split at hl <;> try (simp at hl; done)
    rename_i hn
    exact ⟨_, hp.ad_val (by simp [valid, ho, hn])⟩
  · simp at hl
def resOne (P : Program) (s : St) (r : ResultVar) : Option Tr := match resPV P s r with | some p => toTr s.hp dep p | none => none
def rdVar (tmps : Array Value) : ResultVar → Sem Value
  | .tmp t => pure (tmps.getD t undef)
  | .cell a t => do loadVar t (← asAddr (tmps.getD a undef))
theorem resVals {h0 : Hp} {μ0 : Id → Nat} {w0 : World} {N : Nat} {s : St} {μ : Id → Nat} {a : Act} {w : World} (hr : Rel A h0 μ0 w0 N s μ a w) : ∀ (l : List ResultVar) (ts : List Tr), mapO (resOne P s) l = some ts →
    ∃ vs : List Value, (l.mapM (rdVar a.tmps)).run P w = .ok vs w ∧ vs.length = ts.length ∧ ∀ (i : Nat) x, ts[i]? = some x → Reads w A x (vs.getD i Go.undef)
  | [], ts, h => by
    simp [mapO] at h; subst h
    exact ⟨[], by simp, rfl, fun i x hx => by simp at hx⟩
  | r :: l, ts, h => by
    simp only [mapO] at h
    split at h <;> simp at h
    subst h
    rename_i x xs hx hxs
    obtain ⟨vs, h1, h2, h3⟩ := resVals hr l xs hxs
    have one : ∃ v, (rdVar a.tmps r).run P w = .ok v w ∧ Reads w A x v := by
      unfold resOne at hx
      split at hx <;> try (simp at hx; done)
      rename_i p hp
      have fin : ∀ v, VR s.hp μ w (LL A s.hp μ) p v → Reads w A x v := fun v hv =>
        toTr_reads hr.hp dep p v x hv hx (fun b hb => .inl hb) (fun b hb id hid e => by
          obtain ⟨o, ho⟩ := Option.isSome_iff_exists.1 (reach_ex hr.hp dep p v hv id hid)
          exact hr.hp.dis id o ho (e ▸ hb))
      cases r with
      | tmp t =>
        have hp : some (s.sl t) = some p := hp
        simp only [Option.some.injEq] at hp
        subst hp
        exact ⟨a.tmps.getD t Go.undef, by simp [rdVar], fin _ (hr.sl t)⟩
      | cell c t =>
        simp only [resPV] at hp
        obtain ⟨b, hb⟩ := load_ptr (hr.sl c) hp
        obtain ⟨v', h4, h5⟩ := load_good hr.hp (hr.sl c) hp
        refine ⟨v', ?_, fin _ h5⟩
        rw [hb] at h4
        simp only [Instr.loadAt, Instr.sureAddr, Sem.run_bind, Sem.run_pure, Result.andThen_ok] at h4
        simp only [rdVar, hb, asAddr, Sem.run_bind, Sem.run_pure, Result.andThen_ok, h4]
    obtain ⟨v, h4, h5⟩ := one
    refine ⟨v :: vs, by simp [List.mapM_cons, h4, h1], by simp [h2], fun i y hy => ?_⟩
    cases i with
    | zero => simp at hy; subst hy; simpa using h5
    | succ i => simpa using h3 i y (by simpa using hy)
theorem mapM_rdVar (tmps : Array Value) (f : ResultVar → Sem Value) (h1 : ∀ u, f (.tmp u) = pure (tmps.getD u undef)) (h2 : ∀ c t, f (.cell c t) = (do loadVar t (← asAddr (tmps.getD c undef)))) (l : List ResultVar) :
    l.mapM f = l.mapM (rdVar tmps) := by
  congr 1
  funext x
  cases x with
  | tmp u => rw [h1]; rfl
  | cell c t => rw [h2]; rfl
theorem results_good {h0 : Hp} {μ0 : Id → Nat} {w0 : World} {N : Nat} {s : St} {μ : Id → Nat} {a : Act} {w : World} (hr : Rel A h0 μ0 w0 N s μ a w) {fn : Func} {r : Tr} (hres : resTr P s fn.results.toList = some r) :
    ∃ v, (results fn a.tmps).run P w = .ok v w ∧ Reads w A r v := by
  have key : ∀ ts, mapO (resOne P s) fn.results.toList = some ts → ∃ vs : List Value, (results fn a.tmps).run P w = .ok (if h : vs.length = 1 then vs[0] else .tuple vs.toArray) w ∧ vs.length = ts.length ∧ ∀ (i : Nat) x, ts[i]? = some x → Reads w A x (vs.getD i Go.undef) := by
    intro ts hts
    obtain ⟨vs, h1, h2, h3⟩ := resVals hr fn.results.toList ts hts
    refine ⟨vs, ?_, h2, h3⟩
    unfold results
    rw [show fn.results = fn.results.toList.toArray by simp, List.mapM_toArray]
    simp only [Sem.run_bind, Sem.run_map]
    rw [mapM_rdVar a.tmps _ (fun _ => rfl) (fun _ _ => rfl)]
    rw [h1]
    simp
  unfold resTr at hres
  change (match mapO (resOne P s) fn.results.toList with | some [x] => some x | some ts => some (.tup ts) | none => none) = some r at hres
  split at hres
  · rename_i x hx
    simp at hres; subst hres
    obtain ⟨vs, h1, h2, h3⟩ := key _ hx
    have hl : vs.length = 1 := h2
    rw [dif_pos hl] at h1
    refine ⟨_, h1, ?_⟩
    have := h3 0 x rfl
    simpa [List.getD, hl] using this
  · rename_i ts hx hne
    simp at hres; subst hres
    obtain ⟨vs, h1, h2, h3⟩ := key _ hne
    have hl : vs.length ≠ 1 := by
      rw [h2]
      intro e
      obtain ⟨x, rfl⟩ := List.length_eq_one_iff.1 e
      exact hx x rfl
    rw [dif_neg hl] at h1
    exact ⟨_, h1, .tup (by simpa using h2.symm) (fun i x hx => by rw [list_getD_toArray]; exact h3 i x hx)⟩
  · simp at hres
theorem hget_none (id : Id) : hget (fun _ => ([] : List Obj)) id = none := by simp [hget]
theorem Reads.pv {h : Hp} {μ : Id → Nat} {w : World} {L : Nat → Prop} {x : Tr} {v : Value} (hr : Reads w L x v) : VR h μ w L x.pv v := by
  cases hr with
  | ptr hs hcell hr => exact .ro hs hcell hr
  | int k n => exact .t (.int k n)
  | bool b => exact .t (.bool b)
  | str b => exact .t (.str b)
  | agg hl hr => exact .t (.agg hl hr)
  | tup hl hr => exact .t (.tup hl hr)
  | nil => exact .t .nil
  | sl h1 h2 h3 h4 h5 h6 => exact .t (.sl h1 h2 h3 h4 h5 h6)
  | fn hl hr => exact .t (.fn hl hr)
  | nilp => exact .t .nilp
  | nilf => exact .t .nilf
  | nilm => exact .t .nilm
theorem init_rel {args : List Tr} {vs : Array Value} {N : Nat} (hA : ∀ b, A b → b < w.heap.size) (hr : ReadsL w A args vs) (hn : args.length ≤ N) :
    Rel A (fun _ => []) (fun _ => 0) w N (initSt args) (fun _ => 0) { tmps := vs ++ Array.replicate (N - vs.size) undef, defers := [] } w where
  sz := by simp; have := hr.1; omega
  df := rfl
  sl t := by
    simp only [initSt, initSl]
    split
    · rename_i x hx
      have hlt : t < vs.size := by rw [← hr.1]; exact (List.getElem?_eq_some_iff.1 hx).1
      have := hr.2 t x hx
      have e : (vs ++ Array.replicate (N - vs.size) undef).getD t Go.undef = vs.getD t Go.undef := by
        have hl2 : t < vs.size + (N - vs.size) := by omega
        simp [Array.getD, hlt, hl2]
      rw [e]
      exact Reads.pv (this.mono (L' := LL A (fun _ => []) fun _ => 0) fun b hb => by
        rcases hb with hb | ⟨id, o, ho, _⟩
        · exact hb
        · rw [hget_none] at ho; cases ho)
    · exact .undef
  hp := ⟨fun id o ho => by simp [initSt, hget_none] at ho, fun id o ho => by simp [initSt, hget_none] at ho, fun id id' o o' ho => by simp [initSt, hget_none] at ho, fun id o ho => by simp [initSt, hget_none] at ho, hA⟩
  ext := Ext.refl _ _ _
theorem Ext.below {μ μ' : Id → Nat} {h' : Hp} {w w' : World} (e : Ext (fun _ => []) μ w h' μ' w') : RowKit.Below w.heap.size w w' :=
  ⟨e.os, e.tape, e.output, e.size, fun b hb => e.old b hb fun ⟨id, o, ho, _⟩ => by rw [hget_none] at ho; cases ho⟩
theorem dcall_of_wp {g : FuncId} {fn : Func} {c : Code} {args : List Tr} {r : Tr} (hm : P.follows .mixedOrders = true) (hf : P.funcs[g]? = some fn) (hb : fn.body = some c) (hname : (fn.name == "runtime.NumGoroutine") = false)
    (mu : Nat → Bool) (hok : codeOK mu fn.ntmps c = true) (hn : args.length ≤ fn.ntmps) (hw : wp P mu c (initSt args) (endK P fn r)) : DCall P g args r := by
  refine ⟨⟨fn, hf, hname, by simp [hb]⟩, fun w A vs hA hr => calls_of_wp hf hb ?_⟩
  refine wp_mono (wp_good hm c (initSt args) (endK P fn r) _ _ w hok (init_rel hA hr hn) hw) ?_
  rintro e a' w' ⟨e', s', μ', rfl, hk, hr'⟩
  have fin : ∀ (s' : St), resTr P s' fn.results.toList = some r → Rel A (fun _ => []) (fun _ => 0) w fn.ntmps s' μ' a' w' → a'.defers = [] ∧ ∃ v, (results fn a'.tmps).run P w' = .ok v w' ∧ ∃ v', Ending.returned v = .returned v' ∧ Reads w' A r v' ∧ RowKit.Below w.heap.size w w' := by
    intro s' hk hr'
    obtain ⟨v, h1, h2⟩ := results_good hr' hk
    exact ⟨hr'.df, v, h1, v, rfl, h2, hr'.ext.below⟩
  cases e' with
  | normal => exact fin s' hk hr'
  | ret => exact fin s' hk hr'
  | exit n => exact hk.elim
def PV.un : PV → PV
  | .t x => x.pv
  | v => v
theorem VR.un {h : Hp} {μ : Id → Nat} {w : World} {L : Nat → Prop} {p : PV} {v : Value} (hv : VR h μ w L p v) : VR h μ w L p.un v := by
  cases p with
  | t x => exact Reads.pv hv.tree
  | _ => exact hv
def initSlI (args : List PV) : Sl := fun t => match args[t]? with | some x => x.un | none => .undef
def initStI (args : List PV) (h : Hp) : St := ⟨initSlI args, h⟩
theorem init_relI {args : List PV} {h : Hp} {μ : Id → Nat} {vs : Array Value} {N : Nat} (hr : HR A h μ w) (hl : args.length = vs.size) (hv : ∀ i p, args[i]? = some p → VR h μ w (LL A h μ) p (vs.getD i Go.undef)) (hn : args.length ≤ N) :
    Rel A h μ w N (initStI args h) μ { tmps := vs ++ Array.replicate (N - vs.size) undef, defers := [] } w where
  sz := by simp; omega
  df := rfl
  sl t := by
    simp only [initStI, initSlI]
    split
    · rename_i x hx
      have hlt : t < vs.size := by rw [← hl]; exact (List.getElem?_eq_some_iff.1 hx).1
      have := hv t x hx
      have e : (vs ++ Array.replicate (N - vs.size) undef).getD t Go.undef = vs.getD t Go.undef := by
        have hl2 : t < vs.size + (N - vs.size) := by omega
        simp [Array.getD, hlt, hl2]
      rw [e]
      exact this.un
    · exact .undef
  hp := hr
  ext := Ext.refl _ _ _
theorem resValsI {h0 : Hp} {μ0 : Id → Nat} {w0 : World} {N : Nat} {s : St} {μ : Id → Nat} {a : Act} {w : World} (hr : Rel A h0 μ0 w0 N s μ a w) : ∀ (l : List ResultVar) (ps : List PV), mapO (resPV P s) l = some ps →
    ∃ vs : List Value, (l.mapM (rdVar a.tmps)).run P w = .ok vs w ∧ vs.length = ps.length ∧ ∀ (i : Nat) x, ps[i]? = some x → VR s.hp μ w (LL A s.hp μ) x (vs.getD i Go.undef)
  | [], ps, h => by
    simp [mapO] at h; subst h
    exact ⟨[], by simp, rfl, fun i x hx => by simp at hx⟩
  | r :: l, ps, h => by
    simp only [mapO] at h
    split at h <;> simp at h
    subst h
    rename_i p xs hp hxs
    obtain ⟨vs, h1, h2, h3⟩ := resValsI hr l xs hxs
    have one : ∃ v, (rdVar a.tmps r).run P w = .ok v w ∧ VR s.hp μ w (LL A s.hp μ) p v := by
      cases r with
      | tmp t =>
        have hp : some (s.sl t) = some p := hp
        simp only [Option.some.injEq] at hp
        subst hp
        exact ⟨a.tmps.getD t Go.undef, by simp [rdVar], hr.sl t⟩
      | cell c t =>
        simp only [resPV] at hp
        obtain ⟨b, hb⟩ := load_ptr (hr.sl c) hp
        obtain ⟨v', h4, h5⟩ := load_good hr.hp (hr.sl c) hp
        refine ⟨v', ?_, h5⟩
        rw [hb] at h4
        simp only [Instr.loadAt, Instr.sureAddr, Sem.run_bind, Sem.run_pure, Result.andThen_ok] at h4
        simp only [rdVar, hb, asAddr, Sem.run_bind, Sem.run_pure, Result.andThen_ok, h4]
    obtain ⟨v, h4, h5⟩ := one
    refine ⟨v :: vs, by simp [List.mapM_cons, h4, h1], by simp [h2], fun i y hy => ?_⟩
    cases i with
    | zero => simp at hy; subst hy; simpa using h5
    | succ i => simpa using h3 i y (by simpa using hy)
def resI (P : Program) (s : St) (l : List ResultVar) : Option PV :=
  match mapO (resPV P s) l with
  | some [x] => some x
  | some ps => some (mkTup ps)
  | none => none
theorem VR.mkTup {h : Hp} {μ : Id → Nat} {w : World} {L : Nat → Prop} {ps : List PV} {vs : List Value} (hl : ps.length = vs.length) (hv : ∀ (i : Nat) x, ps[i]? = some x → VR h μ w L x (vs.getD i Go.undef)) : VR h μ w L (mkTup ps) (.tuple vs.toArray) := by
  unfold Vm.mkTup
  split
  · rename_i ts ht
    have := trees_get ht; subst this
    refine .t (.tup (by simpa using hl) fun i x hx => ?_)
    rw [list_getD_toArray]
    exact (hv i (.t x) (by rw [List.getElem?_map, hx]; rfl)).tree
  · exact .tup (by simpa using hl) fun i x hx => by rw [list_getD_toArray]; exact hv i x hx
theorem results_goodI {h0 : Hp} {μ0 : Id → Nat} {w0 : World} {N : Nat} {s : St} {μ : Id → Nat} {a : Act} {w : World} (hr : Rel A h0 μ0 w0 N s μ a w) {fn : Func} {r : PV} (hres : resI P s fn.results.toList = some r) :
    ∃ v, (results fn a.tmps).run P w = .ok v w ∧ VR s.hp μ w (LL A s.hp μ) r v := by
  have key : ∀ ps, mapO (resPV P s) fn.results.toList = some ps → ∃ vs : List Value, (results fn a.tmps).run P w = .ok (if h : vs.length = 1 then vs[0] else .tuple vs.toArray) w ∧ vs.length = ps.length ∧ ∀ (i : Nat) x, ps[i]? = some x → VR s.hp μ w (LL A s.hp μ) x (vs.getD i Go.undef) := by
    intro ps hps
    obtain ⟨vs, h1, h2, h3⟩ := resValsI hr fn.results.toList ps hps
    refine ⟨vs, ?_, h2, h3⟩
    unfold results
    rw [show fn.results = fn.results.toList.toArray by simp, List.mapM_toArray]
    simp only [Sem.run_bind, Sem.run_map]
    rw [mapM_rdVar a.tmps _ (fun _ => rfl) (fun _ _ => rfl)]
    rw [h1]
    simp
  unfold resI at hres
  split at hres
  · rename_i x hx
    simp at hres; subst hres
    obtain ⟨vs, h1, h2, h3⟩ := key _ hx
    have hl : vs.length = 1 := h2
    rw [dif_pos hl] at h1
    refine ⟨_, h1, ?_⟩
    have := h3 0 x rfl
    simpa [List.getD, hl] using this
  · rename_i ps hx hne
    simp at hres; subst hres
    obtain ⟨vs, h1, h2, h3⟩ := key _ hne
    have hl : vs.length ≠ 1 := by
      rw [h2]
      intro e
      obtain ⟨x, rfl⟩ := List.length_eq_one_iff.1 e
      exact hx x rfl
    rw [dif_neg hl] at h1
    exact ⟨_, h1, .mkTup h2.symm h3⟩
  · simp at hres
def endI (P : Program) (fn : Func) (Q : PV → Hp → Prop) : Ex → St → Prop := fun e s => match e with
  | .exit _ => False
  | _ => ∃ r, resI P s fn.results.toList = some r ∧ Q r s.hp
theorem icall_of_wp {g : FuncId} {fn : Func} {c : Code} {args : List PV} {h : Hp} {Q : PV → Hp → Prop} (hm : P.follows .mixedOrders = true) (hf : P.funcs[g]? = some fn) (hb : fn.body = some c) (hname : (fn.name == "runtime.NumGoroutine") = false)
    (mu : Nat → Bool) (hok : codeOK mu fn.ntmps c = true) (hn : args.length ≤ fn.ntmps) (hw : wp P mu c (initStI args h) (endI P fn Q)) : ICall P g args h Q := by
  refine ⟨⟨fn, hf, hname, by simp [hb]⟩, fun w A μ vs hr hl hv => calls_of_wp hf hb ?_⟩
  refine wp_mono (wp_good hm c (initStI args h) (endI P fn Q) _ _ w hok (init_relI hr hl hv hn) hw) ?_
  rintro e a' w' ⟨e', s', μ', rfl, hk, hr'⟩
  have fin : ∀ (s' : St), (∃ r, resI P s' fn.results.toList = some r ∧ Q r s'.hp) → Rel A h μ w fn.ntmps s' μ' a' w' → a'.defers = [] ∧ ∃ v, (results fn a'.tmps).run P w' = .ok v w' ∧
      ∃ v' r h' μ', Ending.returned v = .returned v' ∧ Q r h' ∧ HR A h' μ' w' ∧ Ext h μ w h' μ' w' ∧ VR h' μ' w' (LL A h' μ') r v' := by
    rintro s' ⟨r, hk, hq⟩ hr'
    obtain ⟨v, h1, h2⟩ := results_goodI hr' hk
    exact ⟨hr'.df, v, h1, v, r, s'.hp, μ', rfl, hq, hr'.hp, hr'.ext, h2⟩
  cases e' with
  | normal => exact fin s' hk hr'
  | ret => exact fin s' hk hr'
  | exit n => exact hk.elim
end
end Go.Vm
end
