/- The abstract machine: snapshots; an object made, turned, frozen. -/
import Derived.Test.YtajgclnahfmfmaaVm2
namespace Go.Vm
open Go

/-! ## lists -/
theorem mapO_get {α β : Type} {f : α → Option β} : ∀ {l : List α} {r : List β}, mapO f l = some r → r.length = l.length ∧ ∀ (i : Nat) a, l[i]? = some a → ∃ b, f a = some b ∧ r[i]? = some b
  | [], r, h => by simp [mapO] at h; subst h; exact ⟨rfl, fun i a hi => by simp at hi⟩
  | a :: l, r, h => by
    simp only [mapO] at h
    split at h
    · rename_i b bs hb hbs
      simp at h; subst h
      obtain ⟨h1, h2⟩ := mapO_get hbs
      refine ⟨by simp [h1], fun i x hi => ?_⟩
      cases i with
      | zero => simp at hi; subst hi; exact ⟨b, hb, rfl⟩
      | succ i => simpa using h2 i x (by simpa using hi)
    · cases h

theorem mapO_get' {α β : Type} {f : α → Option β} {l : List α} {r : List β} (h : mapO f l = some r) (i : Nat) (b : β) (hb : r[i]? = some b) : ∃ a, l[i]? = some a ∧ f a = some b := by
  obtain ⟨h1, h2⟩ := mapO_get h
  have hi : i < l.length := by rw [← h1]; exact (List.getElem?_eq_some_iff.1 hb).1
  obtain ⟨b', hb', hr⟩ := h2 i l[i] (List.getElem?_eq_getElem hi)
  rw [hb] at hr; cases hr
  exact ⟨l[i], List.getElem?_eq_getElem hi, hb'⟩

theorem mapO_t {h : Hp} {k : Nat} : ∀ l : List Tr, mapO (toTr h k) (l.map .t) = some l
  | [] => rfl
  | x :: l => by
    have : toTr h k (.t x) = some x := by cases k <;> rfl
    simp [mapO, this, mapO_t l]

theorem chunk_spec (esz : Nat) : ∀ (n : Nat) (ts : List Tr), ts.length = n * esz → flat (chunk esz n ts) = ts ∧ (chunk esz n ts).length = n ∧ ∀ x ∈ chunk esz n ts, x.cells.length = esz
  | 0, ts, h => by
    have : ts = [] := List.eq_nil_of_length_eq_zero (by omega)
    subst this; simp [chunk, flat]
  | n + 1, ts, h => by
    have hl : (ts.drop esz).length = n * esz := by rw [List.length_drop, h, Nat.succ_mul]; omega
    obtain ⟨h1, h2, h3⟩ := chunk_spec esz n (ts.drop esz) hl
    refine ⟨?_, by simp [chunk, h2], ?_⟩
    · simp only [chunk, flat, List.flatMap_cons, Tr.cells]
      simp only [flat] at h1
      rw [h1, List.take_append_drop]
    · intro x hx
      simp only [chunk, List.mem_cons] at hx
      rcases hx with rfl | hx
      · simp only [Tr.cells, List.length_take, h, Nat.succ_mul]; omega
      · exact h3 x hx

theorem flat_one (ts : List Tr) (h : ∀ x ∈ ts, x.cells = [x]) : flat ts = ts := by
  induction ts with
  | nil => rfl
  | cons x r ih =>
    have := ih (fun y hy => h y (by simp [hy]))
    simp only [flat] at this
    simp [flat, h x (by simp), this]

theorem elems_spec {ag : Bool} {esz n : Nat} {ts : List Tr} (hl : ts.length = n * esz) (h1 : ag = false → esz = 1) (hone : ∀ x ∈ ts, x.cells = [x]) :
    flat (elems ag esz n ts) = ts ∧ (elems ag esz n ts).length = n ∧ ∀ x ∈ elems ag esz n ts, x.cells.length = esz := by
  cases ag with
  | true => exact chunk_spec esz n ts hl
  | false =>
    have : esz = 1 := h1 rfl
    subst this
    exact ⟨flat_one ts hone, by simpa [elems] using hl, fun x hx => by simp [elems] at hx; simp [hone x hx]⟩

theorem Reads.one {w : World} {L : Nat → Prop} {x : Tr} {v : Value} (h : Reads w L x v) (h1 : v.oneCell' = true) : x.cells = [x] := by
  cases h <;> first | rfl | (simp [Value.oneCell'] at h1)

/-! ## the heap -/
theorem hget_hset (h : Hp) (id id' : Id) (o : Obj) : hget (hset h id o) id' = if id' = id then (if (hget h id).isSome then some o else none) else hget h id' := by
  obtain ⟨s, g⟩ := id; obtain ⟨s', g'⟩ := id'
  simp only [hget, hset, upd]
  by_cases hs : s' = s
  · subst hs
    simp only [if_true, Prod.mk.injEq, true_and]
    rw [List.getElem?_set]
    by_cases hg : g' = g
    · subst hg
      by_cases hlt : g' < (h s').length
      · simp [hlt]
      · simp [hlt]
    · rw [if_neg (fun e => hg e.symm), if_neg hg]
  · rw [if_neg hs, if_neg (fun e => hs (by cases e; rfl))]

theorem hget_hnew (h : Hp) (s : Nat) (o : Obj) (id : Id) : hget (hnew h s o) id = if id = hnext h s then some o else hget h id := by
  obtain ⟨s', g'⟩ := id
  have hd : ((s', g') = hnext h s) = (s' = s ∧ g' = (h s).length) := by simp [hnext]
  simp only [hget, hnew, upd, hd]
  by_cases hs : s' = s
  · subst hs
    simp only [if_true, true_and]
    by_cases hg : g' = (h s').length
    · subst hg; simp
    · rw [if_neg hg, List.getElem?_append]
      split
      · rfl
      · rw [List.getElem?_eq_none (by simp; omega), List.getElem?_eq_none (by omega)]
  · rw [if_neg hs, if_neg (fun e => hs e.1)]

theorem hget_hnext (h : Hp) (s : Nat) : hget h (hnext h s) = none := by simp [hget, hnext]

theorem hget_frz : ∀ (ids : List Id) (h : Hp) (id : Id), hget (frz h ids) id = (hget h id).map fun o => { o with live := o.live && !(ids.contains id) }
  | [], h, id => by cases hh : hget h id <;> simp [frz, hh]
  | i :: ids, h, id => by
    have ih := hget_frz ids (frz1 h i) id
    simp only [frz, List.foldl_cons] at ih ⊢
    rw [ih]
    unfold frz1
    cases hi : hget h i with
    | none =>
      simp only
      cases hh : hget h id with
      | none => rfl
      | some o =>
        have : id ≠ i := fun e => by subst e; rw [hi] at hh; cases hh
        simp [this]
    | some o' =>
      simp only [hget_hset, hi, Option.isSome_some, if_true]
      by_cases he : id = i
      · subst he; simp [hi]
      · rw [if_neg he]
        cases hh : hget h id with
        | none => rfl
        | some o => simp [he]

/-! ## snapshots -/
/-- what lies in cells is no map -/
theorem HR.notSpec {A : Nat → Prop} {h : Hp} {μ : Id → Nat} {w : World} (hr : HR A h μ w) {id : Id} {o : Obj} (ho : hget h id = some o) {cur : Array Value} {et : TypeId} {fz : Nat × Nat} (hb : w.heap[μ id]? = some (.cells cur et fz)) : o.esz ≠ 0 := by
  intro hz
  obtain ⟨_, h1, h2⟩ := hr.spec id o ho hz
  cases hag : o.ag with
  | true =>
    obtain ⟨kv, _, hm⟩ := h1 hag
    rw [hb] at hm; cases hm
  | false =>
    obtain ⟨m, om, fs, seen, c0, _, _, _, _, hm, _⟩ := h2 hag
    rw [hb] at hm; cases hm
theorem HR.len0 {A : Nat → Prop} {h : Hp} {μ : Id → Nat} {w : World} (hr : HR A h μ w) {id : Id} {o : Obj} (ho : hget h id = some o) (hz : o.esz = 0) : o.len = 0 := (hr.spec id o ho hz).1
theorem toTr_reads {A : Nat → Prop} {h : Hp} {μ : Id → Nat} {w : World} (hr : HR A h μ w) {L' : Nat → Prop} : ∀ (k : Nat) (p : PV) (v : Value) (x : Tr),
    VR h μ w (LL A h μ) p v → toTr h k p = some x → (∀ b, L' b → LL A h μ b) → (∀ b, L' b → ∀ id ∈ reach h k p, μ id ≠ b) → Reads w L' x v := by
  intro k
  induction k with
  | zero =>
    intro p v x hv ht hL _
    cases p <;> simp [toTr] at ht
    subst ht
    cases hv with
    | t h => exact h.mono hL
  | succ k ih =>
    intro p v x hv ht hL hid
    have lists : ∀ (l : List PV) (ts : List Tr) (vs : Array Value), mapO (toTr h k) l = some ts → l.length = vs.size → (∀ (i : Nat) p, l[i]? = some p → VR h μ w (LL A h μ) p (vs.getD i undef)) →
        (∀ b, L' b → ∀ p ∈ l, ∀ id ∈ reach h k p, μ id ≠ b) → ts.length = vs.size ∧ ∀ (i : Nat) x, ts[i]? = some x → Reads w L' x (vs.getD i undef) := by
      intro l ts vs hm hl hvs hb
      refine ⟨by rw [(mapO_get hm).1, hl], fun i x hx => ?_⟩
      obtain ⟨p, hp, hpx⟩ := mapO_get' hm i x hx
      exact ih p _ x (hvs i p hp) hpx hL (fun b hb' id hid' => hb b hb' p (List.mem_of_getElem? hp) id hid')
    cases hv with
    | t hh => simp [toTr] at ht; subst ht; exact hh.mono hL
    | @ro cs a vals hs hcell hrd =>
      simp only [toTr, Option.some.injEq] at ht
      subst ht
      exact .ptr hs (fun k x hk => by obtain ⟨h1, h2, h3⟩ := hcell k x hk; exact ⟨fun hb => h1 (hL _ hb), h2, h3⟩) (fun k x hk => (hrd k x hk).mono hL)
    | ad => simp [toTr] at ht
    | mp => simp [toTr] at ht
    | it => simp [toTr] at ht
    | skip => simp [toTr] at ht
    | undef => simp [toTr] at ht
    | @agg l vs hl hvs =>
      simp only [toTr] at ht
      split at ht
      · rename_i ts hm
        simp at ht; subst ht
        obtain ⟨h1, h2⟩ := lists l ts vs hm hl hvs (fun b hb p hp id hid' => hid b hb id (by simp only [reach, List.mem_flatMap]; exact ⟨p, hp, hid'⟩))
        exact .agg h1 h2
      · cases ht
    | @tup l vs hl hvs =>
      simp only [toTr] at ht
      split at ht
      · rename_i ts hm
        simp at ht; subst ht
        obtain ⟨h1, h2⟩ := lists l ts vs hm hl hvs (fun b hb p hp id hid' => hid b hb id (by simp only [reach, List.mem_flatMap]; exact ⟨p, hp, hid'⟩))
        exact .tup h1 h2
      · cases ht
    | @fn f l vs hl hvs =>
      simp only [toTr] at ht
      split at ht
      · rename_i ts hm
        simp at ht; subst ht
        obtain ⟨h1, h2⟩ := lists l ts vs hm hl hvs (fun b hb p hp id hid' => hid b hb id (by simp only [reach, List.mem_flatMap]; exact ⟨p, hp, hid'⟩))
        exact .fn h1 h2
      · cases ht
    | @rf id n v o ho hz hn h1 hv =>
      simp only [toTr, ho] at ht
      split at ht
      · rename_i hlen
        split at ht
        · rename_i ts hm
          simp at ht; subst ht
          obtain ⟨cap, cur, et, fz, rfl, hblk, hcur⟩ := hv hlen
          obtain ⟨cur', cap', hblk', hesz, hag, hcl, hcs, hle, hmax, hcell⟩ := hr.obj id o ho hz
          rw [hblk] at hblk'
          cases hblk'
          have hcap : cap = cap' := Nat.eq_of_mul_eq_mul_right hesz (hcur.symm.trans hcs)
          subst hcap
          have hmem : id ∈ reach h (k + 1) (.rf id n) := by simp [reach]
          have hsub : ∀ p ∈ o.cs, ∀ i ∈ reach h k p, i ∈ reach h (k + 1) (.rf id n) := by
            intro p hp i hi
            simp only [reach, ho, List.mem_cons, List.mem_flatMap]
            exact .inr ⟨p, hp, hi⟩
          have hts : ∀ (i : Nat) x, ts[i]? = some x → Reads w L' x (cur.getD i undef) ∧ (cur.getD i undef).oneCell' = true := by
            intro i x hx
            obtain ⟨p, hp, hpx⟩ := mapO_get' hm i x hx
            obtain ⟨hvr, h1c⟩ := hcell i p hp
            exact ⟨ih p _ x hvr hpx hL (fun b hb i' hi' => hid b hb i' (hsub p (List.mem_of_getElem? hp) i' hi')), h1c⟩
          have hone : ∀ x ∈ ts, x.cells = [x] := by
            intro x hx
            obtain ⟨i, hi, rfl⟩ := List.mem_iff_getElem.1 hx
            obtain ⟨a, b⟩ := hts i ts[i] (List.getElem?_eq_getElem hi)
            exact a.one b
          have hlts : ts.length = o.len * o.esz := by rw [(mapO_get hm).1, hcl]
          obtain ⟨hf, hfl, hfe⟩ := elems_spec hlts hag hone
          have := @Reads.sl w L' (elems o.ag o.esz o.len ts) ⟨μ id, 0, none⟩ cap o.esz (fun k => cur.getD k undef) (fun _ => rfl) (by rw [hfl]; omega) hmax hfe
            (fun i x hx => by
              rw [hf] at hx
              refine ⟨fun hb => hid _ hb id hmem rfl, ?_, (hts i x hx).2⟩
              have hi : i < cur.size := by
                have : i < ts.length := (List.getElem?_eq_some_iff.1 hx).1
                have : o.len * o.esz ≤ cap * o.esz := Nat.mul_le_mul_right _ hle
                omega
              have hadd : (⟨μ id, 0, none⟩ : Addr).add i = ⟨μ id, i, none⟩ := by unfold Addr.add; split <;> simp_all
              rw [hadd]
              simp [World.cell?, hblk, hi, Array.getD])
            (fun i x hx => by rw [hf] at hx; exact (hts i x hx).1)
          rw [hfl, hlen] at this
          rw [hlen]
          exact this
        · cases ht
      · cases ht

/-! ## an object made, turned, frozen -/
section
variable {A : Nat → Prop} {h : Hp} {μ : Id → Nat} {w w' : World}

theorem HR.lt (hr : HR A h μ w) {id : Id} {o : Obj} (ho : hget h id = some o) : μ id < w.heap.size := by
  by_cases hz : o.esz = 0
  · obtain ⟨_, h1, h2⟩ := hr.spec id o ho hz
    cases hag : o.ag with
    | true =>
      obtain ⟨kv, _, hm⟩ := h1 hag
      exact (Array.getElem?_eq_some_iff.1 hm).1
    | false =>
      obtain ⟨m, om, fs, seen, c0, _, _, _, _, hm, _⟩ := h2 hag
      exact (Array.getElem?_eq_some_iff.1 hm).1
  · obtain ⟨cur, cap, hb, _⟩ := hr.obj id o ho hz
    exact (Array.getElem?_eq_some_iff.1 hb).1

/-- maps lie as they lay -/
theorem Spec.keep {h' : Hp} {μ' : Id → Nat} {id : Id} {o : Obj} (hl : o.len = 0 ∧ (o.ag = true → MapLay h μ w id o) ∧ (o.ag = false → IterLay h μ w id o)) (hb : w'.heap[μ' id]? = w.heap[μ id]?)
    (hm : ∀ m om, hget h m = some om → om.esz = 0 → om.ag = true → ∃ om', hget h' m = some om' ∧ om'.esz = 0 ∧ om'.ag = true ∧ μ' m = μ m) :
    o.len = 0 ∧ (o.ag = true → MapLay h' μ' w' id o) ∧ (o.ag = false → IterLay h' μ' w' id o) := by
  obtain ⟨h0, h1, h2⟩ := hl
  refine ⟨h0, fun hag => ?_, fun hag => ?_⟩
  · obtain ⟨kv, e1, e2⟩ := h1 hag
    exact ⟨kv, e1, by rw [hb]; exact e2⟩
  · obtain ⟨m, om, fs, seen, c0, e1, e2, e3, e4, e5, e6, e7⟩ := h2 hag
    obtain ⟨om', g1, g2, g3, g4⟩ := hm m om e2 e3 e4
    exact ⟨m, om', fs, seen, c0, e1, g1, g2, g3, by rw [hb, g4]; exact e5, e6, e7⟩

/-- The world has grown; nothing that was there has turned. -/
theorem Ext.grow (hr : HR A h μ w) (hb : RowKit.Below w.heap.size w w') : HR A h μ w' ∧ Ext h μ w h μ w' := by
  have e : Ext h μ w h μ w' := ⟨hb.os, hb.tape, hb.output, hb.size, fun b hlt _ => hb.block b hlt, fun b cur et fz hc => ⟨cur, et, fz, by rw [hb.block b (Array.getElem?_eq_some_iff.1 hc).1]; exact hc, rfl⟩,
    fun _ o ho => ⟨o, ho, Nat.le_refl _, rfl, fun _ => rfl, id, rfl, fun _ => rfl⟩, fun _ => .inl⟩
  refine ⟨⟨fun id o ho hz => Spec.keep (hr.spec id o ho hz) (hb.block _ (hr.lt ho)) (fun m om h1 h2 h3 => ⟨om, h1, h2, h3, rfl⟩), fun id o ho hz => ?_, hr.inj, hr.dis, fun b hA => Nat.lt_of_lt_of_le (hr.old b hA) hb.size⟩, e⟩
  obtain ⟨cur, cap, hblk, h2, h3, h4, h5, h6, h7, h8⟩ := hr.obj id o ho hz
  exact ⟨cur, cap, by rw [hb.block _ (hr.lt ho)]; exact hblk, h2, h3, h4, h5, h6, h7, fun k p hp => ⟨(h8 k p hp).1.ext e, (h8 k p hp).2⟩⟩

def setμ (μ : Id → Nat) (id : Id) (b : Nat) : Id → Nat := fun i => if i = id then b else μ i
theorem setμ_same (μ : Id → Nat) (id : Id) (b : Nat) : setμ μ id b id = b := by simp [setμ]
theorem setμ_ne (μ : Id → Nat) {id i : Id} (b : Nat) (h : i ≠ id) : setμ μ id b i = μ i := by simp [setμ, h]

/-- A new object. -/
theorem HR.new (hr : HR A h μ w) (d b : Nat) (o : Obj) (cur : Array Value) (cap : Nat)
    (hw : w'.os = w.os ∧ w'.tape = w.tape ∧ w'.output = w.output) (hsz : w.heap.size ≤ w'.heap.size) (hold : ∀ k : Nat, k < w.heap.size → w'.heap[k]? = w.heap[k]?)
    (hb : w.heap.size ≤ b) (hcur : w'.heap[b]? = some (.cells cur o.elem (0, 0))) (hesz : 0 < o.esz) (hag : o.ag = false → o.esz = 1) (hcs : o.cs.length = o.len * o.esz) (hcap : cur.size = cap * o.esz) (hle : o.len ≤ cap) (hmax : cap ≤ maxLen)
    (hcell : ∀ k p, o.cs[k]? = some p → VR h μ w (LL A h μ) p (cur.getD k undef) ∧ (cur.getD k undef).oneCell' = true) :
    HR A (hnew h d o) (setμ μ (hnext h d) b) w' ∧ Ext h μ w (hnew h d o) (setμ μ (hnext h d) b) w' := by
  have hne : ∀ id o', hget h id = some o' → id ≠ hnext h d := fun id o' ho e => by rw [e, hget_hnext] at ho; cases ho
  have hbA : ¬ A b := fun hA => by have := hr.old b hA; omega
  have e : Ext h μ w (hnew h d o) (setμ μ (hnext h d) b) w' := by
    refine ⟨hw.1, hw.2.1, hw.2.2, hsz, fun k hk _ => hold k hk, fun k c et fz hc => ⟨c, et, fz, by rw [hold k (Array.getElem?_eq_some_iff.1 hc).1]; exact hc, rfl⟩, fun id o' ho => ?_, ?_⟩
    · refine ⟨o', by rw [hget_hnew, if_neg (hne id o' ho)]; exact ho, Nat.le_refl _, rfl, fun _ => setμ_ne _ _ (hne id o' ho), fun hh => hh, rfl, fun _ => rfl⟩
    · rintro k ⟨id, o', ho, hl, rfl⟩
      rw [hget_hnew] at ho
      split at ho
      · rename_i he; subst he; rw [setμ_same]; exact .inr hb
      · rename_i he; rw [setμ_ne _ _ he]; exact .inl ⟨id, o', ho, hl, rfl⟩
  refine ⟨⟨fun id o' ho hz => ?_, fun id o' ho hz => ?_, fun id id' o1 o2 h1 h2 hl heq => ?_, fun id o' ho => ?_, fun k hA => Nat.lt_of_lt_of_le (hr.old k hA) hsz⟩, e⟩
  · rw [hget_hnew] at ho
    split at ho
    · cases ho; omega
    · rename_i he
      exact Spec.keep (hr.spec id o' ho hz) (by rw [setμ_ne _ _ he]; exact hold _ (hr.lt ho)) (fun m om h1 h2 h3 => ⟨om, by rw [hget_hnew, if_neg (hne m om h1)]; exact h1, h2, h3, setμ_ne _ _ (hne m om h1)⟩)
  · rw [hget_hnew] at ho
    split at ho
    · rename_i he; subst he; cases ho
      rw [setμ_same]
      exact ⟨cur, cap, hcur, hesz, hag, hcs, hcap, hle, hmax, fun k p hp => ⟨(hcell k p hp).1.ext e, (hcell k p hp).2⟩⟩
    · rename_i he
      obtain ⟨cur', cap', hblk, h2, h3, h4, h5, h6, h7, h8⟩ := hr.obj id o' ho hz
      rw [setμ_ne _ _ he]
      exact ⟨cur', cap', by rw [hold _ (hr.lt ho)]; exact hblk, h2, h3, h4, h5, h6, h7, fun k p hp => ⟨(h8 k p hp).1.ext e, (h8 k p hp).2⟩⟩
  · rw [hget_hnew] at h1 h2
    by_cases e1 : id = hnext h d
    · by_cases e2 : id' = hnext h d
      · rw [e1, e2]
      · rw [if_neg e2] at h2
        rw [e1, setμ_same, setμ_ne _ _ e2] at heq
        have := hr.lt h2; omega
    · rw [if_neg e1] at h1
      by_cases e2 : id' = hnext h d
      · rw [e2, setμ_same, setμ_ne _ _ e1] at heq
        have := hr.lt h1; omega
      · rw [if_neg e2] at h2
        rw [setμ_ne _ _ e1, setμ_ne _ _ e2] at heq
        exact hr.inj id id' o1 o2 h1 h2 hl heq
  · rw [hget_hnew] at ho
    split at ho
    · rename_i he; rw [he, setμ_same]; exact hbA
    · rename_i he; rw [setμ_ne _ _ he]; exact hr.dis id o' ho

/-- An object turned: in its block, or in a new one. -/
theorem HR.set (hr : HR A h μ w) (id : Id) (o o' : Obj) (b : Nat) (cur : Array Value) (cap : Nat) (ho : hget h id = some o) (hnz : o.esz ≠ 0) (hlive : o.live = true)
    (hw : w'.os = w.os ∧ w'.tape = w.tape ∧ w'.output = w.output) (hsz : w.heap.size ≤ w'.heap.size) (hold : ∀ k : Nat, k < w.heap.size → k ≠ μ id → w'.heap[k]? = w.heap[k]?)
    (hbs : ∀ (c : Array Value) (et : TypeId) (fz : Nat × Nat), w.heap[μ id]? = some (.cells c et fz) → ∃ (c' : Array Value) (et' : TypeId) (fz' : Nat × Nat), w'.heap[μ id]? = some (.cells c' et' fz') ∧ c'.size = c.size)
    (hb : b = μ id ∨ w.heap.size ≤ b) (hcur : w'.heap[b]? = some (.cells cur o.elem (0, 0))) (hcs : o'.cs.length = o'.len * o.esz) (hcap : cur.size = cap * o.esz) (hle : o'.len ≤ cap) (hmax : cap ≤ maxLen)
    (hlen : o.len ≤ o'.len) (hsame : o'.len = o.len → b = μ id) (hf : o'.esz = o.esz ∧ o'.elem = o.elem ∧ o'.ag = o.ag ∧ o'.live = true)
    (hcell : ∀ k p, o'.cs[k]? = some p → VR h μ w (LL A h μ) p (cur.getD k undef) ∧ (cur.getD k undef).oneCell' = true) :
    HR A (hset h id o') (setμ μ id b) w' ∧ Ext h μ w (hset h id o') (setμ μ id b) w' := by
  obtain ⟨hf1, hf2, hf3, hf4⟩ := hf
  obtain ⟨_, _, _, hesz, hag, _⟩ := hr.obj id o ho hnz
  have hbA : ¬ A b := by
    rcases hb with rfl | hb
    · exact hr.dis id o ho
    · exact fun hA => by have := hr.old b hA; omega
  have hg : ∀ i, hget (hset h id o') i = if i = id then some o' else hget h i := fun i => by rw [hget_hset, ho]; simp
  have e : Ext h μ w (hset h id o') (setμ μ id b) w' := by
    refine ⟨hw.1, hw.2.1, hw.2.2, hsz, fun k hk hl => hold k hk (fun e => hl ⟨id, o, ho, hlive, e.symm⟩), fun k c et fz hc => ?_, fun i oi hi => ?_, ?_⟩
    · by_cases hk : k = μ id
      · subst hk; exact hbs c et fz hc
      · exact ⟨c, et, fz, by rw [hold k (Array.getElem?_eq_some_iff.1 hc).1 hk]; exact hc, rfl⟩
    · by_cases hi' : i = id
      · subst hi'
        rw [ho] at hi; cases hi
        exact ⟨o', by rw [hg, if_pos rfl], hlen, hf1, fun hl => by rw [setμ_same]; exact hsame hl, fun _ => hlive, hf3, fun hz => absurd hz hnz⟩
      · exact ⟨oi, by rw [hg, if_neg hi']; exact hi, Nat.le_refl _, rfl, fun _ => setμ_ne _ _ hi', fun h => h, rfl, fun _ => rfl⟩
    · rintro k ⟨i, oi, hi, hl, rfl⟩
      rw [hg] at hi
      split at hi
      · rename_i he; subst he; rw [setμ_same]
        rcases hb with rfl | hb
        · exact .inl ⟨i, o, ho, hlive, rfl⟩
        · exact .inr hb
      · rename_i he; rw [setμ_ne _ _ he]; exact .inl ⟨i, oi, hi, hl, rfl⟩
  refine ⟨⟨fun i oi hi hz => ?_, fun i oi hi hz => ?_, fun i i' o1 o2 h1 h2 hl heq => ?_, fun i oi hi => ?_, fun k hA => Nat.lt_of_lt_of_le (hr.old k hA) hsz⟩, e⟩
  · rw [hg] at hi
    split at hi
    · cases hi; omega
    · rename_i he
      refine Spec.keep (hr.spec i oi hi hz) ?_ (fun m om h1 h2 h3 => ?_)
      · rw [setμ_ne _ _ he]
        exact hold _ (hr.lt hi) (fun e' => he (hr.inj id i o oi ho hi hlive e'.symm).symm)
      · have hne : m ≠ id := fun e => by subst e; rw [ho] at h1; cases h1; exact hnz h2
        exact ⟨om, by rw [hg, if_neg hne]; exact h1, h2, h3, setμ_ne _ _ hne⟩
  · rw [hg] at hi
    split at hi
    · rename_i he; subst he; cases hi
      rw [setμ_same, hf1, hf2, hf3]
      exact ⟨cur, cap, hcur, hesz, hag, hcs, hcap, hle, hmax, fun k p hp => ⟨(hcell k p hp).1.ext e, (hcell k p hp).2⟩⟩
    · rename_i he
      obtain ⟨cur', cap', hblk, h2, h3, h4, h5, h6, h7, h8⟩ := hr.obj i oi hi hz
      rw [setμ_ne _ _ he]
      refine ⟨cur', cap', by rw [hold _ (hr.lt hi) (fun e' => he (hr.inj id i o oi ho hi hlive e'.symm).symm)]; exact hblk, h2, h3, h4, h5, h6, h7, fun k p hp => ⟨(h8 k p hp).1.ext e, (h8 k p hp).2⟩⟩
  · rw [hg] at h1 h2
    by_cases e1 : i = id
    · by_cases e2 : i' = id
      · rw [e1, e2]
      · rw [if_neg e2] at h2
        rw [e1, setμ_same, setμ_ne _ _ e2] at heq
        rcases hb with hb | hb
        · rw [hb] at heq; rw [e1]; exact hr.inj id i' o o2 ho h2 hlive heq
        · have := hr.lt h2; omega
    · rw [if_neg e1] at h1
      by_cases e2 : i' = id
      · rw [e2, setμ_same, setμ_ne _ _ e1] at heq
        rcases hb with hb | hb
        · rw [hb] at heq; rw [e2]; exact hr.inj i id o1 o h1 ho hl heq
        · have := hr.lt h1; omega
      · rw [if_neg e2] at h2
        rw [setμ_ne _ _ e1, setμ_ne _ _ e2] at heq
        exact hr.inj i i' o1 o2 h1 h2 hl heq
  · rw [hg] at hi
    split at hi
    · rename_i he; rw [he, setμ_same]; exact hbA
    · rename_i he; rw [setμ_ne _ _ he]; exact hr.dis i oi hi

/-- Objects frozen. -/
theorem HR.frz (hr : HR A h μ w) (ids : List Id) : HR A (frz h ids) μ w ∧ Ext h μ w (frz h ids) μ w := by
  have e : Ext h μ w (Vm.frz h ids) μ w := by
    refine ⟨rfl, rfl, rfl, Nat.le_refl _, fun _ _ _ => rfl, fun _ c et fz hc => ⟨c, et, fz, hc, rfl⟩, fun i oi hi => ?_, ?_⟩
    · exact ⟨{ oi with live := oi.live && !(ids.contains i) }, by rw [hget_frz, hi]; rfl, Nat.le_refl _, rfl, fun _ => rfl, fun h => by simp at h; exact h.1, rfl, fun _ => rfl⟩
    · rintro k ⟨i, oi, hi, hl, rfl⟩
      rw [hget_frz] at hi
      cases hh : hget h i with
      | none => simp [hh] at hi
      | some o => simp [hh] at hi; subst hi; simp at hl; exact .inl ⟨i, o, hh, hl.1, rfl⟩
  have back : ∀ i oi, hget (Vm.frz h ids) i = some oi → ∃ o, hget h i = some o ∧ oi = { o with live := o.live && !(ids.contains i) } := by
    intro i oi hi
    rw [hget_frz] at hi
    cases hh : hget h i with
    | none => simp [hh] at hi
    | some o => simp [hh] at hi; exact ⟨o, rfl, by rw [← hi]; simp⟩
  refine ⟨⟨fun i oi hi hz => ?_, fun i oi hi hz => ?_, fun i i' o1 o2 h1 h2 hl heq => ?_, fun i oi hi => ?_, hr.old⟩, e⟩
  · obtain ⟨o, ho, rfl⟩ := back i oi hi
    exact Spec.keep (o := { o with live := o.live && !(ids.contains i) }) (hr.spec i o ho hz) rfl (fun m om h1 h2 h3 => ⟨{ om with live := om.live && !(ids.contains m) }, by rw [hget_frz, h1]; rfl, h2, h3, rfl⟩)
  · obtain ⟨o, ho, rfl⟩ := back i oi hi
    obtain ⟨cur', cap', hblk, h2, h3, h4, h5, h6, h7, h8⟩ := hr.obj i o ho hz
    exact ⟨cur', cap', hblk, h2, h3, h4, h5, h6, h7, fun k p hp => ⟨(h8 k p hp).1.ext e, (h8 k p hp).2⟩⟩
  · obtain ⟨o, ho, rfl⟩ := back i o1 h1
    obtain ⟨o', ho', rfl⟩ := back i' o2 h2
    simp at hl
    exact hr.inj i i' o o' ho ho' hl.1 heq
  · obtain ⟨o, ho, rfl⟩ := back i oi hi
    exact hr.dis i o ho

/-- Behind a freezing: what a value leads to lies outside of the live blocks. -/
theorem frz_out (hr : HR A h μ w) {ids : List Id} {b : Nat} (hb : LL A (frz h ids) μ b) {id : Id} (hid : id ∈ ids) (hex : (hget h id).isSome) : μ id ≠ b := by
  intro he
  obtain ⟨o, ho⟩ := Option.isSome_iff_exists.1 hex
  rcases hb with hA | ⟨i, oi, hi, hl, hμ⟩
  · rw [← he] at hA; exact hr.dis id o ho hA
  · rw [hget_frz] at hi
    cases hh : hget h i with
    | none => simp [hh] at hi
    | some o' =>
      simp [hh] at hi; subst hi; simp at hl
      have : i = id := hr.inj i id o' o hh ho hl.1 (hμ.trans he.symm)
      subst this
      exact hl.2 hid

/-- A new map, or a new way through one. -/
theorem HR.newS (hr : HR A h μ w) (d : Nat) (o : Obj) (X : Go.Obj) (hesz : o.esz = 0) (hlen : o.len = 0) (_hX : ∀ c et fz, X ≠ .cells c et fz)
    (hm : o.ag = true → ∃ kv : List (Int × Int), o.cs = kvC kv ∧ X = .map (entA 0 kv).toArray kv.length)
    (hi : o.ag = false → ∃ (m : Id) (om : Obj) (fs : List Bool) (seen : Array Nat) (c0 : Nat), o.cs = .mp m :: flC fs ∧ hget h m = some om ∧ om.esz = 0 ∧ om.ag = true ∧ X = .mapIter (some (μ m)) fs.length seen c0 ∧ fs.length ≤ c0 ∧ ∀ i, seen.contains i = fs.getD i false) :
    HR A (hnew h d o) (setμ μ (hnext h d) w.heap.size) (w.alloc X) ∧ Ext h μ w (hnew h d o) (setμ μ (hnext h d) w.heap.size) (w.alloc X) := by
  have hpush : (w.alloc X).heap = w.heap.push X := rfl
  have hsz : w.heap.size ≤ (w.alloc X).heap.size := by rw [hpush]; simp
  have hold : ∀ k : Nat, k < w.heap.size → (w.alloc X).heap[k]? = w.heap[k]? := fun k hk => by rw [hpush]; simp [Array.getElem?_push, Nat.ne_of_lt hk]
  have hcur : (w.alloc X).heap[w.heap.size]? = some X := by rw [hpush]; simp
  have hne : ∀ id o', hget h id = some o' → id ≠ hnext h d := fun id o' ho e => by rw [e, hget_hnext] at ho; cases ho
  have hbA : ¬ A w.heap.size := fun hA => by have := hr.old _ hA; omega
  have e : Ext h μ w (hnew h d o) (setμ μ (hnext h d) w.heap.size) (w.alloc X) := by
    refine ⟨rfl, rfl, rfl, hsz, fun k hk _ => hold k hk, fun k c et fz hc => ⟨c, et, fz, by rw [hold k (Array.getElem?_eq_some_iff.1 hc).1]; exact hc, rfl⟩, fun id o' ho => ?_, ?_⟩
    · exact ⟨o', by rw [hget_hnew, if_neg (hne id o' ho)]; exact ho, Nat.le_refl _, rfl, fun _ => setμ_ne _ _ (hne id o' ho), fun hh => hh, rfl, fun _ => rfl⟩
    · rintro k ⟨id, o', ho, hl, rfl⟩
      rw [hget_hnew] at ho
      split at ho
      · rename_i he; subst he; rw [setμ_same]; exact .inr (Nat.le_refl _)
      · rename_i he; rw [setμ_ne _ _ he]; exact .inl ⟨id, o', ho, hl, rfl⟩
  refine ⟨⟨fun id o' ho hz => ?_, fun id o' ho hz => ?_, fun id id' o1 o2 h1 h2 hl heq => ?_, fun id o' ho => ?_, fun k hA => Nat.lt_of_lt_of_le (hr.old k hA) hsz⟩, e⟩
  · rw [hget_hnew] at ho
    split at ho
    · rename_i he; subst he; cases ho
      refine ⟨hlen, fun hag => ?_, fun hag => ?_⟩
      · obtain ⟨kv, e1, e2⟩ := hm hag
        exact ⟨kv, e1, by rw [setμ_same, hcur, e2]⟩
      · obtain ⟨m, om, fs, seen, c0, e1, e2, e3, e4, e5, e6, e7⟩ := hi hag
        exact ⟨m, om, fs, seen, c0, e1, by rw [hget_hnew, if_neg (hne m om e2)]; exact e2, e3, e4, by rw [setμ_same, hcur, e5, setμ_ne _ _ (hne m om e2)], e6, e7⟩
    · rename_i he
      exact Spec.keep (hr.spec id o' ho hz) (by rw [setμ_ne _ _ he]; exact hold _ (hr.lt ho)) (fun m om h1 h2 h3 => ⟨om, by rw [hget_hnew, if_neg (hne m om h1)]; exact h1, h2, h3, setμ_ne _ _ (hne m om h1)⟩)
  · rw [hget_hnew] at ho
    split at ho
    · cases ho; exact absurd hesz hz
    · rename_i he
      obtain ⟨cur', cap', hblk, h2, h3, h4, h5, h6, h7, h8⟩ := hr.obj id o' ho hz
      rw [setμ_ne _ _ he]
      exact ⟨cur', cap', by rw [hold _ (hr.lt ho)]; exact hblk, h2, h3, h4, h5, h6, h7, fun k p hp => ⟨(h8 k p hp).1.ext e, (h8 k p hp).2⟩⟩
  · rw [hget_hnew] at h1 h2
    by_cases e1 : id = hnext h d
    · by_cases e2 : id' = hnext h d
      · rw [e1, e2]
      · rw [if_neg e2] at h2
        rw [e1, setμ_same, setμ_ne _ _ e2] at heq
        have := hr.lt h2; omega
    · rw [if_neg e1] at h1
      by_cases e2 : id' = hnext h d
      · rw [e2, setμ_same, setμ_ne _ _ e1] at heq
        have := hr.lt h1; omega
      · rw [if_neg e2] at h2
        rw [setμ_ne _ _ e1, setμ_ne _ _ e2] at heq
        exact hr.inj id id' o1 o2 h1 h2 hl heq
  · rw [hget_hnew] at ho
    split at ho
    · rename_i he; rw [he, setμ_same]; exact hbA
    · rename_i he; rw [setμ_ne _ _ he]; exact hr.dis id o' ho

/-- A map, or a way through one, turned in its place. -/
theorem HR.setS (hr : HR A h μ w) (id : Id) (o o' : Obj) (X : Go.Obj) (ho : hget h id = some o) (hz0 : o.esz = 0) (hlive : o.live = true) (hf : o'.esz = 0 ∧ o'.len = 0 ∧ o'.ag = o.ag ∧ o'.live = true)
    (hw : w'.os = w.os ∧ w'.tape = w.tape ∧ w'.output = w.output) (hsz : w'.heap.size = w.heap.size) (hold : ∀ k : Nat, k ≠ μ id → w'.heap[k]? = w.heap[k]?) (hcur : w'.heap[μ id]? = some X)
    (hm : o.ag = true → ∃ kv : List (Int × Int), o'.cs = kvC kv ∧ X = .map (entA 0 kv).toArray kv.length)
    (hi : o.ag = false → ∃ (m : Id) (om : Obj) (fs : List Bool) (seen : Array Nat) (c0 : Nat), o'.cs = .mp m :: flC fs ∧ hget h m = some om ∧ om.esz = 0 ∧ om.ag = true ∧ X = .mapIter (some (μ m)) fs.length seen c0 ∧ fs.length ≤ c0 ∧ ∀ i, seen.contains i = fs.getD i false) :
    HR A (hset h id o') μ w' ∧ Ext h μ w (hset h id o') μ w' := by
  obtain ⟨hf1, hf2, hf3, hf4⟩ := hf
  have hl0 := hr.len0 ho hz0
  have hg : ∀ i, hget (hset h id o') i = if i = id then some o' else hget h i := fun i => by rw [hget_hset, ho]; simp
  have hmk : ∀ m om, hget h m = some om → om.esz = 0 → om.ag = true → ∃ om', hget (hset h id o') m = some om' ∧ om'.esz = 0 ∧ om'.ag = true ∧ μ m = μ m := fun m om h1 h2 h3 => by
    by_cases e : m = id
    · subst e
      rw [ho] at h1; cases h1
      exact ⟨o', by rw [hg, if_pos rfl], hf1, hf3.trans h3, rfl⟩
    · exact ⟨om, by rw [hg, if_neg e]; exact h1, h2, h3, rfl⟩
  have hcell : ∀ c et fz, w.heap[μ id]? ≠ some (.cells c et fz) := fun c et fz hc => hr.notSpec ho hc hz0
  have e : Ext h μ w (hset h id o') μ w' := by
    refine ⟨hw.1, hw.2.1, hw.2.2, Nat.le_of_eq hsz.symm, fun k hk hl => hold k (fun e => hl ⟨id, o, ho, hlive, e.symm⟩), fun k c et fz hc => ?_, fun i oi hi => ?_, ?_⟩
    · by_cases hk : k = μ id
      · subst hk; exact absurd hc (hcell c et fz)
      · exact ⟨c, et, fz, by rw [hold k hk]; exact hc, rfl⟩
    · by_cases hi' : i = id
      · subst hi'
        rw [ho] at hi; cases hi
        exact ⟨o', by rw [hg, if_pos rfl], by omega, hf1.trans hz0.symm, fun _ => rfl, fun _ => hlive, hf3, fun _ => by omega⟩
      · exact ⟨oi, by rw [hg, if_neg hi']; exact hi, Nat.le_refl _, rfl, fun _ => rfl, fun h => h, rfl, fun _ => rfl⟩
    · rintro k ⟨i, oi, hi, hl, rfl⟩
      rw [hg] at hi
      split at hi
      · rename_i he; subst he; exact .inl ⟨i, o, ho, hlive, rfl⟩
      · exact .inl ⟨i, oi, hi, hl, rfl⟩
  refine ⟨⟨fun i oi hi' hz => ?_, fun i oi hi' hz => ?_, fun i i' o1 o2 h1 h2 hl heq => ?_, fun i oi hi' => ?_, fun k hA => by rw [hsz]; exact hr.old k hA⟩, e⟩
  · rw [hg] at hi'
    split at hi'
    · rename_i he; subst he; cases hi'
      refine ⟨hf2, fun hag => ?_, fun hag => ?_⟩
      · obtain ⟨kv, e1, e2⟩ := hm (hf3.symm.trans hag)
        exact ⟨kv, e1, by rw [hcur, e2]⟩
      · obtain ⟨m, om, fs, seen, c0, e1, e2, e3, e4, e5, e6, e7⟩ := hi (hf3.symm.trans hag)
        obtain ⟨om', g1, g2, g3, _⟩ := hmk m om e2 e3 e4
        exact ⟨m, om', fs, seen, c0, e1, g1, g2, g3, by rw [hcur, e5], e6, e7⟩
    · rename_i he
      exact Spec.keep (hr.spec i oi hi' hz) (hold _ (fun e' => he (hr.inj id i o oi ho hi' hlive e'.symm).symm)) hmk
  · rw [hg] at hi'
    split at hi'
    · cases hi'; exact absurd hf1 hz
    · rename_i he
      obtain ⟨cur', cap', hblk, h2, h3, h4, h5, h6, h7, h8⟩ := hr.obj i oi hi' hz
      exact ⟨cur', cap', by rw [hold _ (fun e' => he (hr.inj id i o oi ho hi' hlive e'.symm).symm)]; exact hblk, h2, h3, h4, h5, h6, h7, fun k p hp => ⟨(h8 k p hp).1.ext e, (h8 k p hp).2⟩⟩
  · rw [hg] at h1 h2
    by_cases e1 : i = id
    · by_cases e2 : i' = id
      · rw [e1, e2]
      · rw [if_neg e2] at h2
        rw [e1]; rw [e1] at heq
        exact hr.inj id i' o o2 ho h2 hlive heq
    · rw [if_neg e1] at h1
      by_cases e2 : i' = id
      · rw [e2] at heq ⊢; exact hr.inj i id o1 o h1 ho hl heq
      · rw [if_neg e2] at h2
        exact hr.inj i i' o1 o2 h1 h2 hl heq
  · rw [hg] at hi'
    split at hi'
    · rename_i he; rw [he]; exact hr.dis id o ho
    · exact hr.dis i oi hi'

/-- only what is drawn has turned -/
theorem Ext.still (hr : HR A h μ w) (hh : w'.heap = w.heap) (hw : w'.os = w.os ∧ w'.tape = w.tape ∧ w'.output = w.output) : HR A h μ w' ∧ Ext h μ w h μ w' := by
  have e : Ext h μ w h μ w' := ⟨hw.1, hw.2.1, hw.2.2, by rw [hh]; exact Nat.le_refl _, fun b _ _ => by rw [hh], fun b cur et fz hc => ⟨cur, et, fz, by rw [hh]; exact hc, rfl⟩,
    fun _ o ho => ⟨o, ho, Nat.le_refl _, rfl, fun _ => rfl, id, rfl, fun _ => rfl⟩, fun _ => .inl⟩
  refine ⟨⟨fun id o ho hz => Spec.keep (hr.spec id o ho hz) (by rw [hh]) (fun m om h1 h2 h3 => ⟨om, h1, h2, h3, rfl⟩), fun id o ho hz => ?_, hr.inj, hr.dis, fun b hA => by rw [hh]; exact hr.old b hA⟩, e⟩
  obtain ⟨cur, cap, hblk, h2, h3, h4, h5, h6, h7, h8⟩ := hr.obj id o ho hz
  exact ⟨cur, cap, by rw [hh]; exact hblk, h2, h3, h4, h5, h6, h7, fun k p hp => ⟨(h8 k p hp).1.ext e, (h8 k p hp).2⟩⟩
end
end Go.Vm
