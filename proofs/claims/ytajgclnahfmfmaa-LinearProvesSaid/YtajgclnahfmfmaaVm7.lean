/- The abstract machine: make, literals, append, slicing. -/
import Derived.Test.YtajgclnahfmfmaaVm6
namespace Go.Vm
open Go

section
variable {P : Program} {A : Nat → Prop} {h : Hp} {μ : Id → Nat} {w : World}

theorem info_get {e : TypeId} (hi : (P.info? e).isSome) : ∃ i, P.info? e = some i ∧ i.size = P.cellsOf e ∧ i.bytes = P.bytesOf e := by
  obtain ⟨i, hi⟩ := Option.isSome_iff_exists.1 hi
  exact ⟨i, hi, by simp [Program.cellsOf, hi], by simp [Program.bytesOf, hi]⟩

theorem alloc_facts (w : World) (o : Go.Obj) : ((w.alloc o).os = w.os ∧ (w.alloc o).tape = w.tape ∧ (w.alloc o).output = w.output) ∧ w.heap.size ≤ (w.alloc o).heap.size ∧ (∀ k : Nat, k < w.heap.size → (w.alloc o).heap[k]? = w.heap[k]?) :=
  ⟨⟨rfl, rfl, rfl⟩, by simp, fun k hk => heap_alloc_old w o k hk⟩

theorem buildSlice_good (hr : HR A h μ w) {mu : Nat → Bool} {dst : Option Tmp} {t : TypeId} {len : Nat} {parts : List (Nat × PV)} {vparts : Array (Nat × Value)} {v : PV} {h' : Hp} (hl : parts.length = vparts.toList.length)
    (hp : ∀ (i : Nat) x y, parts[i]? = some x → vparts.toList[i]? = some y → x.1 = y.1 ∧ VR h μ w (LL A h μ) x.2 y.2) (hb : buildSlicePV P mu dst t len parts h = some (v, h')) :
    ∃ v' w' μ', (Instr.buildSlice t len vparts).run P w = .ok v' w' ∧ HR A h' μ' w' ∧ Ext h μ w h' μ' w' ∧ VR h' μ' w' (LL A h' μ') v v' := by
  unfold buildSlicePV at hb
  split at hb <;> try (simp at hb; done)
  rename_i e he
  obtain ⟨hu, hie⟩ := elem_under he
  split at hb <;> try (simp at hb; done)
  rename_i z hz
  split at hb <;> try (simp at hb; done)
  rename_i hcond
  obtain ⟨hzl, hpos, hsmall⟩ := hcond
  split at hb <;> try (simp at hb; done)
  rename_i cs hcs
  split at hb <;> try (simp at hb; done)
  obtain ⟨i, zv, hi, hzv, hzs, hzc⟩ := zero_cells (h := h) (μ := μ) (w := w) hz (LL A h μ)
  obtain ⟨i', hi', his, hib⟩ := info_get hie
  rw [hi] at hi'; cases hi'
  have hzc' := zrow_cells hzs hzc len
  rw [hzl] at hzc'
  have hlen0 : ((zrow z len).map PV.t).length = len * P.cellsOf e := by rw [List.length_map, (zrow_get z len).1, hzl]
  obtain ⟨r', hr', hrl, hrc⟩ := fill_good parts vparts.toList ((zrow z len).map .t) ((Array.range (len * P.cellsOf e)).map (zv.cells[· % zv.cells.size]!)) cs hl hp (by rw [hlen0]; simp) hzc' hcs
  have hcl : cs.length = len * P.cellsOf e := by
    have : ∀ (parts : List (Nat × PV)) (c r : List PV), fillPV (fun i => some (i * P.cellsOf e, P.cellsOf e)) c parts = some r → r.length = c.length := by
      intro parts
      induction parts with
      | nil => intro c r hh; simp [fillPV] at hh; rw [hh]
      | cons x parts ih =>
        intro c r hh
        simp only [fillPV] at hh
        split at hh <;> try (simp at hh; done)
        rename_i hc
        rw [ih _ _ hh, splice_length _ _ _ hc.2.1]
    rw [this _ _ _ hcs, hlen0]
  have hrun : (Instr.buildSlice t len vparts).run P w = .ok (.slice (some ⟨w.heap.size, 0, none⟩) len len) (w.alloc (.cells r' e)) := by
    by_cases h0 : len * i.size = 0
    · have hf : Instr.fill (fun i => some (i * P.cellsOf e, P.cellsOf e)) #[] vparts.toList = some r' := by
        rw [← his] at hr'
        rw [h0] at hr'
        rw [← his]
        simpa [Array.range_zero'] using hr'
      rw [← his] at hf
      simp [Instr.buildSlice, run_underlying hu, sizeOf, typeInfo, hi, h0, newRow, Array.range_zero', hf]
    · refine run_buildSlice w t e len vparts r' i zv hu hi hzv (by rw [his]; omega) h0 ?_
      rw [his]; exact hr'
  obtain ⟨f1, f2, f3⟩ := alloc_facts w (.cells r' e)
  obtain ⟨μ', a, b, c⟩ := newRow_good hr (w' := w.alloc (.cells r' e)) (g := w.heap.size) (cap := len) f1 f2 f3 (Nat.le_refl _) (heap_alloc_new w _) hpos hcl (by rw [← hrl]; exact hcl) (Nat.le_refl _)
    (by simp only [maxLen]; have : len * 1 ≤ len * P.cellsOf e := Nat.mul_le_mul_left _ hpos; omega) hrc.2 hb
  exact ⟨_, _, μ', hrun, a, b, c⟩

theorem makeSlice_good (hr : HR A h μ w) {mu : Nat → Bool} {dst : Option Tmp} {t : TypeId} {p q v : PV} {u u' : Value} {h' : Hp} (hp : VR h μ w (LL A h μ) p u) (hq : VR h μ w (LL A h μ) q u')
    (hb : makeSlicePV P mu dst t p q h = some (v, h')) :
    ∃ v' w' μ', (Instr.makeSlice t u u').run P w = .ok v' w' ∧ HR A h' μ' w' ∧ Ext h μ w h' μ' w' ∧ VR h' μ' w' (LL A h' μ') v v' := by
  unfold makeSlicePV at hb
  split at hb <;> try (simp at hb; done)
  rename_i e n m he
  obtain ⟨hu, hie⟩ := elem_under he
  have := int_of hp.tree; subst this
  have := int_of hq.tree; subst this
  split at hb <;> try (simp at hb; done)
  rename_i z hz
  split at hb <;> try (simp at hb; done)
  rename_i hcond
  obtain ⟨hzl, hpos, rfl, h0, hbytes, hmax⟩ := hcond
  obtain ⟨i, zv, hi, hzv, hzs, hzc⟩ := zero_cells (h := h) (μ := μ) (w := w) hz (LL A h μ)
  obtain ⟨i', hi', his, hib⟩ := info_get hie
  rw [hi] at hi'; cases hi'
  have hzc' := zrow_cells hzs hzc m.toNat
  rw [hzl] at hzc'
  have hlen0 : ((zrow z m.toNat).map PV.t).length = m.toNat * P.cellsOf e := by rw [List.length_map, (zrow_get z m.toNat).1, hzl]
  have hrun := run_make (P := P) w t e i zv hu hi hzv .i64 .i64 m m h0 (Int.le_refl _) (by rw [hib, Int.mul_comm]; exact hbytes) (by omega)
  rw [his] at hrun
  obtain ⟨f1, f2, f3⟩ := alloc_facts w (.cells (madeCells zv.cells (m.toNat * P.cellsOf e)) e)
  obtain ⟨μ', a, b, c⟩ := newRow_good hr (g := w.heap.size) (cap := m.toNat) f1 f2 f3 (Nat.le_refl _) (heap_alloc_new w _) hpos hlen0 (by rw [size_madeCells]) (Nat.le_refl _)
    (by simp only [maxLen]; omega) hzc'.2 hb
  exact ⟨_, _, μ', hrun, a, b, c⟩

theorem src_good (hr : HR A h μ w) {e : TypeId} {p : PV} {u : Value} {m : Nat} {news : List PV} (hp : VR h μ w (LL A h μ) p u) (hs : srcPV P e p h = some (m, news)) :
    news.length = m * P.cellsOf e ∧ ∃ a c, u = .slice a m c ∧ (m ≠ 0 → ∃ (ad : Addr) (vals : List Value), a = some ad ∧ vals.length = m * P.cellsOf e ∧ (∀ (j : Nat) v, vals[j]? = some v → w.cell? (ad.add j) = some v) ∧
      (∀ v ∈ vals, v.oneCell' = true) ∧ ∀ (k : Nat) q, news[k]? = some q → VR h μ w (LL A h μ) q (vals.getD k Go.undef)) := by
  unfold srcPV at hs
  split at hs
  · rename_i nn l
    split at hs <;> simp at hs
    rename_i hfl
    obtain ⟨rfl, rfl⟩ := hs
    refine ⟨by simpa using hfl, ?_⟩
    rcases sl_of hp.tree with ⟨_, rfl, rfl⟩ | ⟨_, a, cap, esz, vals, rfl, hs, hc, hm, he, hcell, hh⟩
    · exact ⟨none, 0, rfl, fun h0 => absurd rfl h0⟩
    · refine ⟨some a, cap, rfl, fun _ => ⟨a, (List.range (flat l).length).map vals, rfl, by simpa using hfl, fun j v hj => ?_, fun v hv => ?_, fun k q hk => ?_⟩⟩
      · rw [List.getElem?_map] at hj
        by_cases hjl : j < (flat l).length
        · rw [List.getElem?_range hjl] at hj
          simp only [Option.map_some, Option.some.injEq] at hj; subst hj
          exact (hcell j (flat l)[j] (List.getElem?_eq_getElem hjl)).2.1
        · simp [List.getElem?_eq_none (by simp; omega : (List.range (flat l).length).length ≤ j)] at hj
      · simp only [List.mem_map, List.mem_range] at hv
        obtain ⟨j, hj, rfl⟩ := hv
        exact (hcell j (flat l)[j] (List.getElem?_eq_getElem hj)).2.2
      · rw [List.getElem?_map] at hk
        cases hx : (flat l)[k]? with
        | none => simp [hx] at hk
        | some x =>
          simp [hx] at hk; subst hk
          have hkl := (List.getElem?_eq_some_iff.1 hx).1
          simp only [List.getD, List.getElem?_map, List.getElem?_range hkl, Option.map_some, Option.getD_some]
          exact .t (hh k x hx)
  · rename_i id n
    cases ho : hget h id with
    | none => simp [ho] at hs
    | some o =>
      simp only [ho] at hs
      split at hs <;> simp at hs
      obtain ⟨rfl, rfl⟩ := hs
      rename_i hc
      obtain ⟨hlen, hesz⟩ := hc
      obtain ⟨cur, cap, hblk, hep, hag, hcs, hcur, hle, hmax, hcells⟩ := hr.obj id o ho (by cases hp with | rf ho' hz _ _ _ => rw [ho] at ho'; cases ho'; exact hz)
      cases hp with
      | rf ho' hz hn h1 hv =>
        rw [ho] at ho'; cases ho'
        obtain ⟨cap', _, _, _, rfl, _⟩ := hv hlen
        have hccur : o.cs.length ≤ cur.size := by rw [hcs, hcur]; exact Nat.mul_le_mul_right _ hle
        rw [hlen, hesz] at hcs
        refine ⟨hcs, some ⟨μ id, 0, none⟩, cap', rfl, fun _ => ⟨_, cur.toList.take o.cs.length, rfl, by rw [List.length_take]; simp; omega, fun j v hj => ?_, fun v hv => ?_, fun k q hk => ?_⟩⟩
        · rw [List.getElem?_take] at hj
          split at hj
          · rename_i hjl
            rw [add_lit, Nat.zero_add, cell_of_row w _ _ _ _ _ hblk]
            simpa using hj
          · cases hj
        · obtain ⟨j, hj, rfl⟩ := List.mem_iff_getElem.1 hv
          simp only [List.length_take, Array.length_toList] at hj
          have hjo : j < o.cs.length := by omega
          have := (hcells j o.cs[j] (List.getElem?_eq_getElem hjo)).2
          have hjc : j < cur.size := by omega
          simpa [Array.getD, hjc] using this
        · have hkl := (List.getElem?_eq_some_iff.1 hk).1
          have := (hcells k q hk).1
          have hkc : k < cur.size := by omega
          simp only [List.getD, List.getElem?_take, hkl, if_true]
          simpa [Array.getD, hkc] using this
  · cases hs

theorem run_append_nothing {t ty e : TypeId} (hu : P.underlying t = some (.slice e)) (hi : (P.info? e).isSome) (base a : Option Addr) (sLen sCap c : Nat) (hle : sLen ≤ sCap) :
    (Builtin.append_ #[t, t] ty #[.slice base sLen sCap, .slice a 0 c]).run P w = .ok (.slice base sLen sCap) w := by
  have hf : ∀ size, (Builtin.firstCells size 0 (.slice a 0 c)).run P w = .ok #[] w := by
    intro size
    cases a with
    | none => simp [Builtin.firstCells]
    | some a => simp [Builtin.firstCells, loadCells, loadCellsFrom]
  cases base with
  | none => simp [Builtin.append_, run_underlying hu, run_sizeOf_info w hi, Builtin.lenOf, hle, hf]
  | some b => simp [Builtin.append_, run_underlying hu, run_sizeOf_info w hi, Builtin.lenOf, hle, hf, storeCells]

theorem append_good (hr : HR A h μ w) {mu : Nat → Bool} {dst : Option Tmp} {t ty : TypeId} {p q v : PV} {u x : Value} {h' : Hp} (hp : VR h μ w (LL A h μ) p u) (hq : VR h μ w (LL A h μ) q x)
    (hb : appendPV P mu dst t p q h = some (v, h')) :
    ∃ v' w' μ', (Builtin.append_ #[t, t] ty #[u, x]).run P w = .ok v' w' ∧ HR A h' μ' w' ∧ Ext h μ w h' μ' w' ∧ VR h' μ' w' (LL A h' μ') v v' := by
  unfold appendPV at hb
  split at hb <;> try (simp at hb; done)
  rename_i e he
  obtain ⟨hu, hie⟩ := elem_under he
  split at hb <;> try (simp at hb; done)
  rename_i z m news hz hsrc
  split at hb <;> try (simp at hb; done)
  rename_i hcond
  obtain ⟨hzl, hpos⟩ := hcond
  obtain ⟨i, zv, hi, hzv, hzs, _⟩ := zero_cells (h := h) (μ := μ) (w := w) hz (LL A h μ)
  obtain ⟨i', hi', his, hib⟩ := info_get hie
  rw [hi] at hi'; cases hi'
  obtain ⟨hnl, a, c, rfl, hsome⟩ := src_good hr hq hsrc
  have hdrew : ∀ o : Go.Obj, (((w.drew.alloc o).os = w.os ∧ (w.drew.alloc o).tape = w.tape ∧ (w.drew.alloc o).output = w.output) ∧ w.heap.size ≤ (w.drew.alloc o).heap.size ∧ (∀ k : Nat, k < w.heap.size → (w.drew.alloc o).heap[k]? = w.heap[k]?)) :=
    fun o => ⟨⟨rfl, rfl, rfl⟩, by simp, fun k hk => heap_alloc_old w.drew o k hk⟩
  split at hb
  · rename_i nn l
    split at hb
    · simp at hb
      obtain ⟨rfl, rfl⟩ := hb
      rename_i hm; subst hm
      have hval : ∃ b n c', u = .slice b n c' ∧ n ≤ c' := by
        rcases sl_of hp.tree with ⟨_, _, rfl⟩ | ⟨_, b, cap, _, _, rfl, _, hc, _⟩
        · exact ⟨_, _, _, rfl, Nat.le_refl _⟩
        · exact ⟨_, _, _, rfl, hc⟩
      obtain ⟨b, n, c', rfl, hle⟩ := hval
      exact ⟨_, w, μ, run_append_nothing hu hie b a n c' c hle, hr, Ext.refl _ _ _, hp⟩
    · split at hb <;> try (simp at hb; done)
      rename_i hm hc
      obtain ⟨rfl, hbytes, hmax⟩ := hc
      have : u = .slice none 0 0 := by
        rcases sl_of hp.tree with ⟨_, _, rfl⟩ | ⟨h, _⟩
        · rfl
        · cases h
      subst this
      obtain ⟨ad, vals, rfl, hvl, hcell, hone, hvr⟩ := hsome hm
      have hrun := run_append_nil (P := P) w t ty e i zv hu hi hzv ad m c vals (by rw [his]; exact hvl) hcell (by omega) (by omega) (by rw [hib]; omega)
      obtain ⟨f1, f2, f3⟩ := hdrew (.cells (vals.toArray ++ Builtin.zeroCells zv.cells (grownCap w m 0 e - m)) e)
      have hge := grownCap_ge w m 0 e
      obtain ⟨μ', ha, hb', hc'⟩ := newRow_good hr (g := w.heap.size) (cap := grownCap w m 0 e) f1 f2 f3 (Nat.le_refl _) (heap_alloc_new w.drew _) hpos hnl
        (by rw [Array.size_append, List.size_toArray, size_zeroCells, hzs, hzl, hvl, ← Nat.add_mul]; congr 1; omega) hge (grownCap_le_maxLen w m 0 e (by simp only [maxLen]; omega))
        (fun k p hk => by
          have hkl := (List.getElem?_eq_some_iff.1 hk).1
          have hkv : k < vals.length := by rw [hvl, ← hnl]; exact hkl
          have e1 : (vals.toArray ++ Builtin.zeroCells zv.cells (grownCap w m 0 e - m)).getD k Go.undef = vals.getD k Go.undef := by
            simp [Array.getD, hkv, List.getD]
            omega
          rw [e1]
          refine ⟨hvr k p hk, ?_⟩
          have := hone vals[k] (List.getElem_mem hkv)
          simpa [List.getD, hkv] using this) hb
      exact ⟨_, _, μ', hrun, ha, hb', hc'⟩
  · rename_i id n
    cases ho : hget h id with
    | none => simp [ho] at hb
    | some o =>
      simp only [ho] at hb
      split at hb <;> try (simp at hb; done)
      rename_i hc
      obtain ⟨hlen, hlive, hel, hesz, hbytes, hmax⟩ := hc
      have hnz : o.esz ≠ 0 := by
        cases hp with
        | rf ho' hz _ _ _ => rw [ho] at ho'; cases ho'; exact hz
      obtain ⟨cur, cap, hblk, hep, hag, hcs, hcur, hle, hcm, hcells⟩ := hr.obj id o ho hnz
      have hval : u = .slice (some ⟨μ id, 0, none⟩) n cap := by
        cases hp with
        | rf ho' hz hn h1 hv =>
          rw [ho] at ho'; cases ho'
          obtain ⟨cap', cur', et, fz, rfl, hblk', hcs'⟩ := hv hlen
          rw [hblk] at hblk'; cases hblk'
          rw [Nat.eq_of_mul_eq_mul_right hep (hcs'.symm.trans hcur)]
      subst hval
      rw [hlen] at hle
      have hccur : o.cs.length ≤ cur.size := by rw [hcs, hcur]; exact Nat.mul_le_mul_right _ (by omega)
      split at hb
      · simp at hb
        obtain ⟨rfl, rfl⟩ := hb
        rename_i hm; subst hm
        exact ⟨_, w, μ, run_append_nothing hu hie _ a n cap c hle, hr, Ext.refl _ _ _, hp⟩
      · rename_i hm
        simp at hb
        obtain ⟨rfl, rfl⟩ := hb
        obtain ⟨ad, vals, rfl, hvl, hcell, hone, hvr⟩ := hsome hm
        have hcs2 : o.cs.length = n * P.cellsOf e := by rw [hcs, hlen, hesz]
        by_cases hroom : n + m ≤ cap
        · have hfit : n * i.size + vals.length ≤ cur.size := by rw [hvl, his, hcur, hesz, ← Nat.add_mul]; exact Nat.mul_le_mul_right _ hroom
          rw [hel] at hblk
          have hrun := run_append_room (P := P) w t ty e i hu hi (μ id) n cap cur hblk ad m c vals (by rw [his]; exact hvl) hcell hone hroom hfit
          have hg : ∀ (k : Nat) p, (o.cs ++ news)[k]? = some p → VR h μ w (LL A h μ) p ((cur.toList.take (n * i.size) ++ vals ++ cur.toList.drop (n * i.size + vals.length)).toArray.getD k Go.undef) ∧ ((cur.toList.take (n * i.size) ++ vals ++ cur.toList.drop (n * i.size + vals.length)).toArray.getD k Go.undef).oneCell' = true := by
            intro k p hk
            have hkl := (List.getElem?_eq_some_iff.1 hk).1
            simp only [List.length_append] at hkl
            have htl : (cur.toList.take (n * i.size)).length = n * i.size := by rw [List.length_take]; simp; omega
            rw [list_getD_toArray]
            rw [List.getElem?_append] at hk
            split at hk
            · rename_i hko
              have hkc : k < cur.size := by omega
              have e1 : (cur.toList.take (n * i.size) ++ vals ++ cur.toList.drop (n * i.size + vals.length)).getD k Go.undef = cur.getD k Go.undef := by
                rw [his, ← hcs2] at htl ⊢
                rw [List.append_assoc]
                simp only [List.getD]
                rw [List.getElem?_append_left (by rw [htl]; exact hko), List.getElem?_take, if_pos hko]
                simp [Array.getD, hkc]
              rw [e1]; exact hcells k p hk
            · rename_i hko
              have hkv : k - o.cs.length < vals.length := by rw [hvl]; omega
              have e1 : (cur.toList.take (n * i.size) ++ vals ++ cur.toList.drop (n * i.size + vals.length)).getD k Go.undef = vals.getD (k - o.cs.length) Go.undef := by
                rw [his, ← hcs2] at htl ⊢
                rw [List.append_assoc]
                simp only [List.getD]
                rw [List.getElem?_append_right (by rw [htl]; omega), htl, List.getElem?_append_left hkv]
              rw [e1]
              refine ⟨hvr _ p hk, ?_⟩
              have := hone vals[k - o.cs.length] (List.getElem_mem hkv)
              simpa [List.getD, hkv] using this
          obtain ⟨ha, hb'⟩ := HR.set hr (w' := w.setRow (μ id) (cur.toList.take (n * i.size) ++ vals ++ cur.toList.drop (n * i.size + vals.length)).toArray) id o { o with cs := o.cs ++ news, len := n + m } (μ id) _ cap ho hnz hlive ⟨rfl, rfl, rfl⟩ (by simp) (fun k _ hk => setRow_other w (μ id) k _ hk)
            (fun c et fz hc => ⟨_, _, _, setRow_heap w (μ id) cur _ e (0, 0) hblk, by rw [hblk] at hc; cases hc; simp; omega⟩)
            (.inl rfl) (by rw [hel]; exact setRow_heap w (μ id) cur _ e (0, 0) hblk) (by simp only [List.length_append]; rw [hcs2, hnl, hesz, ← Nat.add_mul]) (by rw [← hcur]; simp; omega) hroom hcm (by show o.len ≤ n + m; omega) (fun _ => rfl) ⟨rfl, rfl, rfl, hlive⟩ hg
          refine ⟨_, _, _, hrun, ha, hb', .rf (o := { o with cs := o.cs ++ news, len := n + m }) (by rw [hget_hset, ho]; simp) hnz (Nat.le_refl _) rfl fun _ => ⟨cap, _, _, _, by rw [setμ_same], by rw [setμ_same]; exact setRow_heap w (μ id) cur _ e (0, 0) hblk, by rw [← hcur]; simp; omega⟩⟩
        · have holds : ∀ (j : Nat) v, (cur.toList.take o.cs.length)[j]? = some v → w.cell? ((⟨μ id, 0, none⟩ : Addr).add j) = some v := by
            intro j v hj
            rw [List.getElem?_take] at hj
            split at hj
            · rw [add_lit, Nat.zero_add, cell_of_row w _ _ _ _ _ hblk]; simpa using hj
            · cases hj
          have hol : (cur.toList.take o.cs.length).length = n * i.size := by rw [List.length_take, his, ← hcs2]; simp; omega
          have hrun := run_append_grow (P := P) w t ty e i zv hu hi hzv ⟨μ id, 0, none⟩ n cap (cur.toList.take o.cs.length) hol holds ad m c vals (by rw [his]; exact hvl) hcell (by omega) (by omega) (growslice_fits (by omega) (by rw [hib]; exact hbytes))
          have hge := grownCap_ge w (n + m) cap e
          have hncur : ((cur.toList.take o.cs.length).toArray ++ vals.toArray ++ Builtin.zeroCells zv.cells (grownCap w (n + m) cap e - (n + m))).size = grownCap w (n + m) cap e * o.esz := by
            rw [Array.size_append, Array.size_append, List.size_toArray, List.size_toArray, hol, hvl, size_zeroCells, hzs, hzl, his, hesz, ← Nat.add_mul, ← Nat.add_mul]
            congr 1; omega
          have hnew := heap_alloc_new w.drew (.cells ((cur.toList.take o.cs.length).toArray ++ vals.toArray ++ Builtin.zeroCells zv.cells (grownCap w (n + m) cap e - (n + m))) e)
          obtain ⟨f1, f2, f3⟩ := hdrew (.cells ((cur.toList.take o.cs.length).toArray ++ vals.toArray ++ Builtin.zeroCells zv.cells (grownCap w (n + m) cap e - (n + m))) e)
          have hlt := hr.lt ho
          obtain ⟨ha, hb'⟩ := HR.set hr (w' := w.drew.alloc (.cells ((cur.toList.take o.cs.length).toArray ++ vals.toArray ++ Builtin.zeroCells zv.cells (grownCap w (n + m) cap e - (n + m))) e)) id o { o with cs := o.cs ++ news, len := n + m } w.heap.size _ (grownCap w (n + m) cap e) ho hnz hlive f1 f2 (fun k hk _ => f3 k hk)
            (fun c et fz hc => ⟨c, et, fz, by rw [f3 _ hlt]; exact hc, rfl⟩)
            (.inr (Nat.le_refl _)) (by rw [hel]; exact hnew) (by simp only [List.length_append]; rw [hcs2, hnl, hesz, ← Nat.add_mul]) hncur hge (grownCap_le_maxLen w (n + m) cap e (by simp only [maxLen]; omega)) (by show o.len ≤ n + m; omega) (fun hh => by simp only at hh; omega) ⟨rfl, rfl, rfl, hlive⟩
            (fun k p hk => by
              have hkl := (List.getElem?_eq_some_iff.1 hk).1
              simp only [List.length_append] at hkl
              rw [List.getElem?_append] at hk
              have hsl : (cur.toList.take o.cs.length).length = o.cs.length := by rw [List.length_take]; simp; omega
              split at hk
              · rename_i hko
                have hkc : k < cur.size := by omega
                have e1 : ((cur.toList.take o.cs.length).toArray ++ vals.toArray ++ Builtin.zeroCells zv.cells (grownCap w (n + m) cap e - (n + m))).getD k Go.undef = cur.getD k Go.undef := by
                  have hb1 : k < ((cur.toList.take o.cs.length).toArray ++ vals.toArray ++ Builtin.zeroCells zv.cells (grownCap w (n + m) cap e - (n + m))).size := by
                    rw [Array.size_append, Array.size_append, List.size_toArray, hsl]; omega
                  rw [← Option.some_inj, show ∀ (a : Array Value) (h : k < a.size), some (a.getD k Go.undef) = a[k]? from fun a h => by simp [Array.getD, h], show ∀ (a : Array Value) (h : k < a.size), some (a.getD k Go.undef) = a[k]? from fun a h => by simp [Array.getD, h]]
                  · rw [Array.getElem?_append_left (by rw [Array.size_append, List.size_toArray, hsl]; omega), Array.getElem?_append_left (by rw [List.size_toArray, hsl]; omega)]
                    rw [List.getElem?_toArray, List.getElem?_take, if_pos hko, Array.getElem?_toList]
                  · exact hkc
                  · exact hb1
                rw [e1]; exact hcells k p hk
              · rename_i hko
                have hkv : k - o.cs.length < vals.length := by rw [hvl]; omega
                have e1 : ((cur.toList.take o.cs.length).toArray ++ vals.toArray ++ Builtin.zeroCells zv.cells (grownCap w (n + m) cap e - (n + m))).getD k Go.undef = vals.getD (k - o.cs.length) Go.undef := by
                  have hb1 : k < ((cur.toList.take o.cs.length).toArray ++ vals.toArray ++ Builtin.zeroCells zv.cells (grownCap w (n + m) cap e - (n + m))).size := by
                    rw [Array.size_append, Array.size_append, List.size_toArray, List.size_toArray, hsl]; omega
                  rw [← Option.some_inj, show ∀ (a : Array Value) (h : k < a.size), some (a.getD k Go.undef) = a[k]? from fun a h => by simp [Array.getD, h]]
                  · rw [Array.getElem?_append_left (by rw [Array.size_append, List.size_toArray, List.size_toArray, hsl]; omega), Array.getElem?_append_right (by rw [List.size_toArray, hsl]; omega)]
                    have e0 : k - (cur.toList.take o.cs.length).toArray.size = k - o.cs.length := by rw [List.size_toArray, hsl]
                    rw [e0]
                    simp [List.getD, hkv]
                  · exact hb1
                rw [e1]
                refine ⟨hvr _ p hk, ?_⟩
                have := hone vals[k - o.cs.length] (List.getElem_mem hkv)
                simpa [List.getD, hkv] using this)
          refine ⟨_, _, _, hrun, ha, hb', .rf (o := { o with cs := o.cs ++ news, len := n + m }) (by rw [hget_hset, ho]; simp) hnz (Nat.le_refl _) rfl fun _ => ⟨grownCap w (n + m) cap e, _, _, _, by rw [setμ_same], by rw [setμ_same]; exact hnew, hncur⟩⟩
  · cases hb
end
end Go.Vm
