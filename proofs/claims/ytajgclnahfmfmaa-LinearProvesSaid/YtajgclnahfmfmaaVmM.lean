/- The abstract machine: maps from integers to integers. -/
import Derived.Test.YtajgclnahfmfmaaVm8
import Derived.MapKept
import Derived.Maps.RangeRun
namespace Go.Vm
open Go

theorem kvP_kvC : ∀ kv : List (Int × Int), kvP (kvC kv) = some kv
  | [] => rfl
  | (k, v) :: r => by simp only [kvC, kvP, kvP_kvC r]
theorem kvC_inj {a b : List (Int × Int)} (h : kvC a = kvC b) : a = b := by
  have := congrArg kvP h
  rw [kvP_kvC, kvP_kvC] at this
  exact Option.some.inj this
theorem flC_inj {a b : List Bool} (h : flC a = flC b) : a = b := by
  induction a generalizing b with
  | nil => cases b with
    | nil => rfl
    | cons => simp [flC] at h
  | cons x a ih =>
    cases b with
    | nil => simp [flC] at h
    | cons y b =>
      simp only [flC, List.map_cons, List.cons.injEq, PV.t.injEq, Tr.bool.injEq] at h
      rw [h.1, ih h.2]
theorem entA_len : ∀ (kv : List (Int × Int)) (i : Nat), (entA i kv).length = kv.length
  | [], _ => rfl
  | _ :: r, i => by simp [entA, entA_len r]
theorem entA_get : ∀ (kv : List (Int × Int)) (i j : Nat), (entA i kv)[j]? = (kv[j]?).map fun x => ⟨.int .i64 x.1, .int .i64 x.2, i + j⟩
  | [], _, _ => rfl
  | x :: r, i, 0 => rfl
  | x :: r, i, j + 1 => by
    simp only [entA, List.getElem?_cons_succ, entA_get r (i + 1) j]
    rw [show i + 1 + j = i + (j + 1) by omega]
theorem entA_snoc : ∀ (kv : List (Int × Int)) (x : Int × Int) (i : Nat), entA i (kv ++ [x]) = entA i kv ++ [⟨.int .i64 x.1, .int .i64 x.2, i + kv.length⟩]
  | [], _, _ => rfl
  | y :: r, x, i => by
    simp only [List.cons_append, entA, entA_snoc r x (i + 1), List.length_cons]
    rw [show i + 1 + r.length = i + (r.length + 1) by omega]
theorem findNow_kv (d k : Int) : ∀ (kv : List (Int × Int)) (a i : Nat), Instr.findNow (.int .i64) (.int .i64 k) (entA a kv) i = some ((kvIdx k i kv).map fun x => (x.1, Value.int .i64 x.2))
  | [], _, _ => rfl
  | x :: r, a, i => by
    have ih := findNow_kv d k r (a + 1) (i + 1)
    simp only [entA, Instr.findNow, Instr.sameNow, if_true, kvIdx]
    by_cases h : k = x.1
    · simp [h]
    · have : (k == x.1) = false := by simpa using h
      rw [this, if_neg h]
      exact ih
theorem kvIdx_some {k : Int} : ∀ {kv : List (Int × Int)} {i j : Nat} {v : Int}, kvIdx k i kv = some (j, v) → ∃ n, j = i + n ∧ kv[n]? = some (k, v)
  | [], _, _, _, h => by simp [kvIdx] at h
  | x :: r, i, j, v, h => by
    simp only [kvIdx] at h
    split at h
    · rename_i e
      simp only [Option.some.injEq, Prod.mk.injEq] at h
      exact ⟨0, by omega, by rw [e, ← h.2]; rfl⟩
    · obtain ⟨n, h1, h2⟩ := kvIdx_some h
      exact ⟨n + 1, by omega, by simpa using h2⟩

section
variable {P : Program} {A : Nat → Prop} {h : Hp} {μ : Id → Nat} {w : World}
theorem mapB_spec {t : TypeId} (hb : mapB P t = true) : ∃ k e i, P.underlying t = some (.map k e) ∧ P.underlying k = some (.int .i64) ∧ P.info? e = some i ∧ i.zero = some (.int .i64 0) := by
  unfold mapB at hb
  split at hb
  · rename_i k e hu
    simp only [Bool.and_eq_true, beq_iff_eq] at hb
    obtain ⟨h1, h2⟩ := hb
    have hk : P.underlying k = some (.int .i64) := by
      unfold intB at h1
      split at h1
      · rename_i hk; cases h1; exact hk
      · cases h1
    split at h2
    · rename_i hz
      cases hi : P.info? e with
      | none => simp [hi] at hz
      | some i => exact ⟨k, e, i, hu, hk, hi, by simpa [hi] using hz⟩
    · cases h2
  · cases hb
theorem run_zeroInt {e : TypeId} {i : TypeInfo} (hi : P.info? e = some i) (hz : i.zero = some (.int .i64 0)) (w : World) : (zeroValue e).run P w = .ok (.int .i64 0) w := by
  simp [zeroValue, typeInfo, hi, hz]
theorem HR.map (hr : HR A h μ w) {id : Id} {o : Obj} (ho : hget h id = some o) (hz : o.esz = 0) (hg : o.ag = true) : ∃ kv, o.cs = kvC kv ∧ w.heap[μ id]? = some (.map (entA 0 kv).toArray kv.length) := (hr.spec id o ho hz).2.1 hg

theorem makeMap_good (hr : HR A h μ w) {mu : Nat → Bool} {dst : Option Tmp} {t : TypeId} {v : PV} {h' : Hp} (he : makeMapPV P mu dst t h = some (v, h')) :
    ∃ v' w' μ', (Instr.makeMap t none).run P w = .ok v' w' ∧ HR A h' μ' w' ∧ Ext h μ w h' μ' w' ∧ VR h' μ' w' (LL A h' μ') v v' := by
  unfold makeMapPV at he
  split at he <;> try (cases he; done)
  rename_i d
  split at he <;> cases he
  obtain ⟨h1, h2⟩ := HR.newS hr d ⟨[], 0, 0, t, true, true⟩ (.map #[] 0) rfl rfl (fun _ _ _ => by simp) (fun _ => ⟨[], rfl, rfl⟩) (fun h => by cases h)
  refine ⟨_, _, _, rfl, h1, h2, ?_⟩
  have := VR.mp (h := hnew h d ⟨[], 0, 0, t, true, true⟩) (μ := setμ μ (hnext h d) w.heap.size) (w := w.alloc (.map #[] 0)) (L := LL A (hnew h d ⟨[], 0, 0, t, true, true⟩) (setμ μ (hnext h d) w.heap.size)) (id := hnext h d) (o := ⟨[], 0, 0, t, true, true⟩) (by rw [hget_hnew, if_pos rfl]) rfl rfl
  rw [setμ_same] at this
  exact this

theorem range_good (hr : HR A h μ w) {mu : Nat → Bool} {dst : Option Tmp} {t : TypeId} {m v : PV} {u : Value} {h' : Hp} (hm : VR h μ w (LL A h μ) m u) (he : rangePV P mu dst t m h = some (v, h')) :
    ∃ v' w' μ', (Instr.range t u).run P w = .ok v' w' ∧ HR A h' μ' w' ∧ Ext h μ w h' μ' w' ∧ VR h' μ' w' (LL A h' μ') v v' := by
  unfold rangePV at he
  split at he <;> try (cases he; done)
  rename_i d id
  split at he <;> try (cases he; done)
  rename_i o ho
  split at he <;> try (cases he; done)
  rename_i hc
  obtain ⟨_, hz, hg, hb⟩ := hc
  obtain ⟨kv, hcs, hheap⟩ := hr.map ho hz hg
  rw [hcs, kvP_kvC] at he
  simp only [Option.some.injEq, Prod.mk.injEq] at he
  obtain ⟨rfl, rfl⟩ := he
  obtain ⟨k, e, i, hu, _⟩ := mapB_spec hb
  have hval : u = .map (some (μ id)) := by cases hm; rfl
  subst hval
  obtain ⟨h1, h2⟩ := HR.newS hr d ⟨.mp id :: flC (List.replicate kv.length false), 0, 0, t, false, true⟩ (.mapIter (some (μ id)) kv.length #[] kv.length) rfl rfl (fun _ _ _ => by simp) (fun h => by cases h)
    (fun _ => ⟨id, o, List.replicate kv.length false, #[], kv.length, rfl, ho, hz, hg, by simp, by simp, fun i => by simp [List.getD, List.getElem?_replicate]; split <;> rfl⟩)
  refine ⟨_, _, _, run_range_map w t k e (μ id) _ _ hu hheap, h1, h2, ?_⟩
  have := VR.it (h := hnew h d ⟨.mp id :: flC (List.replicate kv.length false), 0, 0, t, false, true⟩) (μ := setμ μ (hnext h d) w.heap.size) (w := w.alloc (.mapIter (some (μ id)) kv.length #[] kv.length)) (L := LL A (hnew h d ⟨.mp id :: flC (List.replicate kv.length false), 0, 0, t, false, true⟩) (setμ μ (hnext h d) w.heap.size)) (id := hnext h d) (o := ⟨.mp id :: flC (List.replicate kv.length false), 0, 0, t, false, true⟩) (by rw [hget_hnew, if_pos rfl]) rfl rfl
  rw [setμ_same] at this
  exact this

theorem heap_same {w : World} {r : Nat} {o : Go.Obj} (hb : w.heap[r]? = some o) : ({ w with heap := w.heap.setIfInBounds r o } : World) = w := by
  have : w.heap.setIfInBounds r o = w.heap := by
    apply Array.ext_getElem?
    intro i
    rw [Array.getElem?_setIfInBounds]
    split
    · rename_i e; subst e
      have := (Array.getElem?_eq_some_iff.1 hb).1
      rw [if_pos this, hb]
    · rfl
  rw [this]
theorem setHeap_other {w : World} {r k : Nat} {o : Go.Obj} (hk : k ≠ r) : ({ w with heap := w.heap.setIfInBounds r o } : World).heap[k]? = w.heap[k]? := by
  simp [Ne.symm hk]
theorem setHeap_self {w : World} {r : Nat} {o o' : Go.Obj} (hb : w.heap[r]? = some o') : ({ w with heap := w.heap.setIfInBounds r o } : World).heap[r]? = some o := by
  have := (Array.getElem?_eq_some_iff.1 hb).1
  simp [this]

theorem mapEntry_good (hr : HR A h μ w) {t : TypeId} {m k v : PV} {u y : Value} {h' : Hp} (hm : VR h μ w (LL A h μ) m u) (hk : VR h μ w (LL A h μ) k y) (he : mapEntryPV P t m k h = some (v, h')) :
    ∃ v' w' μ', (Instr.mapEntry t u y).run P w = .ok v' w' ∧ HR A h' μ' w' ∧ Ext h μ w h' μ' w' ∧ VR h' μ' w' (LL A h' μ') v v' := by
  unfold mapEntryPV at he
  split at he <;> try (cases he; done)
  rename_i id k
  split at he <;> try (cases he; done)
  rename_i o ho
  split at he <;> try (cases he; done)
  rename_i hc
  obtain ⟨hz, hg, hlive, hb⟩ := hc
  obtain ⟨kv, hcs, hheap⟩ := hr.map ho hz hg
  rw [hcs, kvP_kvC] at he
  simp only at he
  obtain ⟨kt, et, i, hu, hkt, hi, hz0⟩ := mapB_spec hb
  have hval : u = .map (some (μ id)) := by cases hm; rfl
  subst hval
  have hy := int_of hk.tree
  subst hy
  have hfind := findNow_kv 0 k kv 0 0
  cases hx : kvIdx k 0 kv with
  | some q =>
    obtain ⟨j, x⟩ := q
    rw [hx] at he hfind
    simp only [Option.some.injEq, Prod.mk.injEq] at he
    obtain ⟨rfl, rfl⟩ := he
    obtain ⟨n, hn, hkn⟩ := kvIdx_some hx
    have hn : j = n := by omega
    subst hn
    have hent : (entA 0 kv)[j]? = some ⟨.int .i64 k, .int .i64 x, j⟩ := by rw [entA_get, hkn]; simp
    have hmod : (entA 0 kv).toArray.modify j (fun e => { e with key := Value.int .i64 k }) = (entA 0 kv).toArray := by
      apply Array.ext_getElem?
      intro i'
      rw [Array.getElem?_modify]
      split
      · rename_i e; subst e
        simp [hent]
      · rfl
    refine ⟨.tuple #[.int .i64 x, .int .i64 j], w, μ, ?_, hr, Ext.refl _ _ _, .t (.tup rfl fun i' y hy => ?_)⟩
    · have hrun : (Instr.mapEntry t (.map (some (μ id))) (.int .i64 k)).run P w = .ok (.tuple #[.int .i64 x, .int .i64 j]) { w with heap := w.heap.setIfInBounds (μ id) (.map ((entA 0 kv).toArray.modify j (fun e => { e with key := Value.int .i64 k })) kv.length) } := by
        simp [Instr.mapEntry, run_underlying hu, MapKept.run_getObj_map hheap, MapKept.run_checkKey hkt (show MapKept.IsKey (.int .i64) (.int .i64 k) from rfl), MapKept.run_findKey hkt hfind, hent, MapKept.run_keyThatStays (show MapKept.IsKey (.int .i64) (.int .i64 k) from rfl), MapKept.run_setObj_map _ hheap, Result.andThen, goInt]
      rw [hrun, hmod, heap_same hheap]
    · match i', hy with
      | 0, hy => simp at hy; subst hy; exact .int _ _
      | 1, hy => simp at hy; subst hy; exact .int _ _
      | n + 2, hy => simp at hy
  | none =>
    rw [hx] at he hfind
    simp only [Option.some.injEq, Prod.mk.injEq] at he
    obtain ⟨rfl, rfl⟩ := he
    have hpush : (entA 0 kv).toArray.push ⟨.int .i64 k, .int .i64 0, kv.length⟩ = (entA 0 (kv ++ [(k, 0)])).toArray := by
      rw [entA_snoc]; simp
    have hrun : (Instr.mapEntry t (.map (some (μ id))) (.int .i64 k)).run P w = .ok (.tuple #[.int .i64 0, .int .i64 kv.length]) { w with heap := w.heap.setIfInBounds (μ id) (.map (entA 0 (kv ++ [(k, 0)])).toArray (kv ++ [(k, 0)]).length) } := by
      rw [← hpush]
      simp [Instr.mapEntry, run_underlying hu, MapKept.run_getObj_map hheap, MapKept.run_checkKey hkt (show MapKept.IsKey (.int .i64) (.int .i64 k) from rfl), MapKept.run_findKey hkt hfind, run_zeroInt hi hz0, MapKept.run_setObj_map _ hheap, Result.andThen, goInt]
    obtain ⟨h1, h2⟩ := HR.setS (w' := { w with heap := w.heap.setIfInBounds (μ id) (.map (entA 0 (kv ++ [(k, 0)])).toArray (kv ++ [(k, 0)]).length) }) hr id o { o with cs := kvC (kv ++ [(k, 0)]) } (.map (entA 0 (kv ++ [(k, 0)])).toArray (kv ++ [(k, 0)]).length) ho hz hlive ⟨hz, (show o.len = 0 from hr.len0 ho hz), rfl, hlive⟩ ⟨rfl, rfl, rfl⟩ (by simp) (fun k hk => setHeap_other hk) (setHeap_self hheap)
      (fun _ => ⟨_, rfl, rfl⟩) (fun hf => by rw [hg] at hf; cases hf)
    refine ⟨_, _, μ, hrun, h1, h2, .t (.tup rfl fun i' y hy => ?_)⟩
    match i', hy with
    | 0, hy => simp at hy; subst hy; exact .int _ _
    | 1, hy => simp at hy; subst hy; exact .int _ _
    | n + 2, hy => simp at hy

theorem findIdx_born : ∀ (kv : List (Int × Int)) (a n : Nat), n < kv.length → (entA a kv).findIdx? (fun e => (e.born : Int) == ((a + n : Nat) : Int)) = some n
  | [], _, _, h => by simp at h
  | x :: r, a, 0, _ => by simp [entA, List.findIdx?_cons]
  | x :: r, a, n + 1, h => by
    have ih := findIdx_born r (a + 1) n (by simpa using h)
    rw [show a + 1 + n = a + (n + 1) by omega] at ih
    have h0 : ((a : Int) == ((a + (n + 1) : Nat) : Int)) = false := by rw [beq_eq_false_iff_ne]; omega
    simp only [entA, List.findIdx?_cons, h0, ih]
    rfl
theorem entA_set : ∀ (kv : List (Int × Int)) (a n : Nat) (y : Int × Int) (x : Int), kv[n]? = some y → (entA a kv).modify n (fun e => { e with val := Value.int .i64 x }) = entA a (kv.set n (y.1, x))
  | [], _, _, _, _, h => by simp at h
  | z :: r, a, 0, y, x, h => by simp at h; subst h; rfl
  | z :: r, a, n + 1, y, x, h => by
    have ih := entA_set r (a + 1) n y x (by simpa using h)
    simp only [List.set_cons_succ, entA, List.modify_succ_cons, ih]

theorem entryStore_good (hr : HR A h μ w) {t : TypeId} {m i x : PV} {u y z : Value} {h' : Hp} (hm : VR h μ w (LL A h μ) m u) (hi : VR h μ w (LL A h μ) i y) (hx : VR h μ w (LL A h μ) x z) (he : entryStorePV m i x h = some h') :
    ∃ w' μ', (Instr.entryStore t u y z).run P w = .ok () w' ∧ HR A h' μ' w' ∧ Ext h μ w h' μ' w' := by
  unfold entryStorePV at he
  split at he <;> try (cases he; done)
  rename_i id i x
  split at he <;> try (cases he; done)
  rename_i o ho
  split at he <;> try (cases he; done)
  rename_i hc
  obtain ⟨hz, hg, hlive, h0⟩ := hc
  obtain ⟨kv, hcs, hheap⟩ := hr.map ho hz hg
  rw [hcs, kvP_kvC] at he
  simp only at he
  split at he <;> cases he
  rename_i q hq
  obtain ⟨n, rfl⟩ : ∃ n : Nat, i = n := ⟨i.toNat, by omega⟩
  rw [Int.toNat_natCast] at hq ⊢
  have hval : u = .map (some (μ id)) := by cases hm; rfl
  subst hval
  have hy := int_of hi.tree
  subst hy
  have hzz := int_of hx.tree
  subst hzz
  have hn : n < kv.length := (List.getElem?_eq_some_iff.1 hq).1
  have hidx := findIdx_born kv 0 n hn
  rw [Nat.zero_add] at hidx
  have hmod : (entA 0 kv).toArray.modify n (fun e => { e with val := Value.int .i64 x }) = (entA 0 (kv.set n (q.1, x))).toArray := by
    rw [← entA_set kv 0 n q x hq]; simp
  have hrun : (Instr.entryStore t (.map (some (μ id))) (.int .i64 n) (.int .i64 x)).run P w = .ok () { w with heap := w.heap.setIfInBounds (μ id) (.map (entA 0 (kv.set n (q.1, x))).toArray (kv.set n (q.1, x)).length) } := by
    rw [← hmod, List.length_set]
    simp [Instr.entryStore, MapKept.run_getObj_map hheap, asInt, asIntOf, hidx, MapKept.run_setObj_map _ hheap, Result.andThen]
  obtain ⟨h1, h2⟩ := HR.setS (w' := { w with heap := w.heap.setIfInBounds (μ id) (.map (entA 0 (kv.set n (q.1, x))).toArray (kv.set n (q.1, x)).length) }) hr id o { o with cs := kvC (kv.set n (q.1, x)) } (.map (entA 0 (kv.set n (q.1, x))).toArray (kv.set n (q.1, x)).length) ho hz hlive ⟨hz, (show o.len = 0 from hr.len0 ho hz), rfl, hlive⟩ ⟨rfl, rfl, rfl⟩ (by simp) (fun k hk => setHeap_other hk) (setHeap_self hheap)
    (fun _ => ⟨_, rfl, rfl⟩) (fun hf => by rw [hg] at hf; cases hf)
  exact ⟨_, μ, hrun, h1, h2⟩

/-- A STEP THROUGH A MAP: whichever entry comes, the machine foresees it. -/
theorem next_good (hr : HR A h μ w) {id : Id} {u : Value} {sl : Sl} {o : Oper} (hm : VR h μ w (LL A h μ) (.it id) u) (hok : nextOk ⟨sl, h⟩ id) (ty : TypeId) :
    ∃ v' w' μ' s' v h', (Instr.next u false ty).run P w = .ok v' w' ∧ nextTo o ⟨sl, h⟩ id s' ∧ s' = St.put ⟨sl, h'⟩ o.dst v ∧ HR A h' μ' w' ∧ Ext h μ w h' μ' w' ∧ VR h' μ' w' (LL A h' μ') v v' := by
  obtain ⟨ob, m, fs, om, kv, ho, hz, hg, hlive, hcs, hom, hmz, hmg, hmcs, hlen⟩ := hok
  simp only at ho hom
  have hval : u = .pointer (some ⟨μ id, 0, none⟩) := by cases hm; rfl
  subst hval
  obtain ⟨kv', e1, hheap⟩ := hr.map hom hmz hmg
  have := kvC_inj (hmcs.symm.trans e1)
  subst this
  obtain ⟨m', om', fs', seen, c0, g1, g2, _, _, g5, g6, g7⟩ := (hr.spec id ob ho hz).2.2 hg
  rw [hcs] at g1
  simp only [List.cons.injEq, PV.mp.injEq] at g1
  obtain ⟨rfl, g1⟩ := g1
  have := flC_inj g1
  subst this
  have hold : ∀ x ∈ ((entA 0 kv).toArray).toList, x.born < fs.length := by
    intro x hx
    obtain ⟨j, hj⟩ := List.mem_iff_getElem?.1 (by simpa using hx : x ∈ entA 0 kv)
    rw [entA_get] at hj
    cases hkj : kv[j]? with
    | none => simp [hkj] at hj
    | some y =>
      simp [hkj] at hj
      have := (List.getElem?_eq_some_iff.1 hkj).1
      rw [← hj]; simp only; omega
  rcases run_next_at (P := P) w ty (μ id) (μ m) fs.length c0 seen _ _ g5 hheap hold g6 with ⟨hl0, hrun⟩ | ⟨e, he, w1, hw1, hrun⟩
  · refine ⟨_, w, μ, _, .t (.tup [.bool false]), h, hrun, ⟨ob, m, fs, om, kv, ho, hcs, hom, hmcs, .inl ⟨?_, rfl⟩⟩, rfl, hr, Ext.refl _ _ _, .t (.tup rfl fun i' y hy => ?_)⟩
    · rw [List.all_eq_true]
      intro b hb
      obtain ⟨j, hj⟩ := List.mem_iff_getElem?.1 hb
      have hjl : j < fs.length := (List.getElem?_eq_some_iff.1 hj).1
      have hseen := g7 j
      have hb2 : fs.getD j false = b := by simp [List.getD, hj]
      rw [hb2] at hseen
      cases b with
      | true => rfl
      | false =>
        exfalso
        obtain ⟨y, hy⟩ : ∃ y, kv[j]? = some y := ⟨kv[j]'(by omega), List.getElem?_eq_getElem (by omega)⟩
        have hmem : (⟨.int .i64 y.1, .int .i64 y.2, j⟩ : MapEntry) ∈ leftOf (entA 0 kv).toArray seen := by
          unfold leftOf
          rw [Array.mem_filter]
          refine ⟨?_, by simpa using hseen⟩
          rw [List.mem_toArray]
          exact List.mem_of_getElem? (i := j) (by rw [entA_get, hy]; simp)
        have := Array.size_pos_of_mem hmem
        omega
    · match i', hy with
      | 0, hy => simp at hy; subst hy; exact .bool _
      | n + 1, hy => simp at hy
  · have hmem : e ∈ leftOf (entA 0 kv).toArray seen := by simpa using he
    unfold leftOf at hmem
    rw [Array.mem_filter, List.mem_toArray] at hmem
    obtain ⟨hm1, hm2⟩ := hmem
    obtain ⟨j, hj⟩ := List.mem_iff_getElem?.1 hm1
    rw [entA_get] at hj
    cases hkj : kv[j]? with
    | none => simp [hkj] at hj
    | some y =>
      simp [hkj] at hj
      subst hj
      simp only at hm2 hrun
      have hjl : j < kv.length := (List.getElem?_eq_some_iff.1 hkj).1
      have hfj : fs[j]? = some false := by
        have hs := g7 j
        have : seen.contains j = false := by simpa using hm2
        rw [this] at hs
        rw [List.getElem?_eq_getElem (by omega)]
        simp [List.getD, show j < fs.length by omega] at hs
        rw [← hs]
      have hst : HR A h μ w1 ∧ Ext h μ w h μ w1 := by
        rcases hw1 with rfl | rfl
        · exact ⟨hr, Ext.refl _ _ _⟩
        · exact Ext.still hr rfl ⟨rfl, rfl, rfl⟩
      obtain ⟨hr1, hx1⟩ := hst
      have hheap1 : w1.heap = w.heap := by rcases hw1 with rfl | rfl <;> rfl
      have hseen : ∀ i', (seen.push j).contains i' = (fs.set j true).getD i' false := by
        intro i'
        have hs := g7 i'
        rw [Array.contains_push, hs]
        simp only [List.getD, List.getElem?_set]
        by_cases e : j = i'
        · subst e
          simp [show j < fs.length by omega]
        · rw [if_neg e]
          have : (i' == j) = false := by simpa using fun h => e h.symm
          simp [this]
      obtain ⟨h1, h2⟩ := HR.setS (w' := ChangeMaps.setBlock w1 (μ id) (.mapIter (some (μ m)) fs.length (seen.push j) kv.length)) hr1 id ob { ob with cs := .mp m :: flC (fs.set j true) } (.mapIter (some (μ m)) fs.length (seen.push j) kv.length) ho hz hlive ⟨hz, (show ob.len = 0 from hr.len0 ho hz), rfl, hlive⟩ ⟨rfl, rfl, rfl⟩ (by simp [ChangeMaps.setBlock]) (fun k hk => setHeap_other hk) (setHeap_self (by rw [hheap1]; exact g5))
        (fun hf => by rw [hg] at hf; cases hf) (fun _ => ⟨m, om, fs.set j true, seen.push j, kv.length, rfl, hom, hmz, hmg, by simp, by simp; omega, hseen⟩)
      · refine ⟨_, _, μ, _, .t (.tup [.bool true, .int .i64 (kv.getD j (0, 0)).1, .int .i64 (kv.getD j (0, 0)).2]), _, hrun, ⟨ob, m, fs, om, kv, ho, hcs, hom, hmcs, .inr ⟨j, hfj, rfl⟩⟩, rfl, h1, hx1.trans h2, .t (.tup rfl fun i' z hz => ?_)⟩
        have hyd : kv.getD j (0, 0) = y := by simp [List.getD, hkj]
        rw [hyd] at hz
        match i', hz with
        | 0, hz => simp at hz; subst hz; exact .bool _
        | 1, hz => simp at hz; subst hz; exact .int _ _
        | 2, hz => simp at hz; subst hz; exact .int _ _
        | n + 3, hz => simp at hz
end
end Go.Vm
