/- The abstract machine: the rule of a loop over a range; rows of one's own that grow; what is known of lengths. -/
import Derived.Test.YtajgclnahfmfmaaVmF
set_option linter.unusedSimpArgs false
namespace Go.Vm
open Go

section
variable {P : Program} {mu : Nat → Bool} {F : Ex → St → Prop} {r : List Item} {s : St} {h : Hp}

theorem wrap_succ {k : Nat} (hk : k < 9223372036854775807) : IntKind.i64.wrap ((k : Int) + 1) = ((k + 1 : Nat) : Int) := by
  rw [wrap_i64 (by omega) (by omega)]; rfl

theorem kont_split (c : Code) (G : St → Prop) (b : Nat) (body : Code) : kont P mu F (.code body :: .blk b :: .back (kont P mu F (.code c :: .back G :: r) .normal) :: r) .normal s = kont P mu F (.code body :: .blk b :: .code c :: .back G :: r) .normal s := by
  show Vm.wp P mu body s (kont P mu F (.blk b :: _)) = Vm.wp P mu body s (kont P mu F (.blk b :: _))
  congr 1

theorem kont_frame {G : St → Prop} {b : Nat} {body : Code} (hk : kont P mu F (.code body :: .blk b :: .back G :: r) .normal s) :
    kont P mu F (.code body :: .blk b :: .back (fun s'' => G s'' ∧ ∀ t, (writes body).contains t = false → s''.sl t = s.sl t) :: r) .normal s := by
  refine vwp_mono _ _ _ _ (fun e s'' ⟨h1, h2⟩ => ?_) (vwp_frame _ _ _ hk)
  have h3 : ∀ t, (writes body).contains t = false → s''.sl t = s.sl t := fun t ht => h2 t (by simpa using ht)
  cases e with
  | normal => exact ⟨h1, h3⟩
  | exit n =>
    rw [kont_blk_exit] at h1 ⊢
    by_cases hn : n = b
    · rw [if_pos hn] at h1 ⊢; exact ⟨h1, h3⟩
    · rw [if_neg hn] at h1 ⊢; exact h1
  | ret => exact h1
theorem kont_back_mono {G G' : St → Prop} {b : Nat} {body : Code} (hg : ∀ s, G s → G' s) (hk : kont P mu F (.code body :: .blk b :: .back G :: r) .normal s) : kont P mu F (.code body :: .blk b :: .back G' :: r) .normal s := by
  refine vwp_mono _ _ _ _ (fun e s'' h1 => ?_) hk
  cases e with
  | normal => exact hg _ h1
  | exit n =>
    rw [kont_blk_exit] at h1 ⊢
    by_cases hn : n = b
    · rw [if_pos hn] at h1 ⊢; exact hg _ h1
    · rw [if_neg hn] at h1 ⊢; exact h1
  | ret => exact h1

def sepB (c nx ix ln : Nat) (body : Code) : Bool := !(c == ix) && !(c == ln) && !(nx == ix) && !(nx == ln) && !(ix == ln) && !(writes body).contains ix && !(writes body).contains ln

/-- THE RULE OF A LOOP OVER A RANGE. -/
theorem loop_range {α : Type} (l : List α) (J : Nat → St → Prop) {a1 a2 b b1 c nx ix ln : Nat} {body : Code} {t1 t2 t3 t4 t5 t6 t7 : TypeId} {p1 p2 p3 : String} {f1 f2 f3 : Array Edge}
    (hix : s.sl ix = .t (.int .i64 0)) (hln : s.sl ln = .t (.int .i64 l.length)) (hmax : l.length ≤ 9223372036854775807) (hsep : sepB c nx ix ln body = true)
    (hst : ∀ k s' v w, J k s' → J k ⟨upd (upd s'.sl nx v) ix w, s'.hp⟩) (hst1 : ∀ k s' u, J k s' → J k ⟨upd s'.sl c u, s'.hp⟩) (h0 : J 0 s)
    (hr : ∀ (k : Nat) (x : α) (s' : St), l[k]? = some x → l.drop k = x :: l.drop (k + 1) → k < l.length → J k s' → s'.sl ix = .t (.int .i64 k) →
      (∀ t, (c :: nx :: ix :: writes body).contains t = false → s'.sl t = s.sl t) → ∀ G : St → Prop, (∀ s'', J (k + 1) s'' → G s'') → kont P mu F (.code body :: .blk b1 :: .back G :: r) .normal s')
    (he : ∀ s', J l.length s' → (∀ t, (c :: nx :: ix :: writes body).contains t = false → s'.sl t = s.sl t) → kont P mu F r (.exit b) s') :
    kont P mu F (.code (.loop (.seq (.region a1 #[⟨some c, .binOp .lss t1 (.tmp ix) (.tmp ln) t2, t3, p1, f1, none⟩] false) (.seq (.cond (.tmp c) .skip (.exit b)) (.seq (.block b1 body)
      (.region a2 #[⟨some nx, .binOp .add t4 (.tmp ix) (.const (.int .i64 1)) t5, t6, p2, f2, none⟩, ⟨some ix, .move (.tmp nx), t7, p3, f3, none⟩] false))))) :: r) .normal s := by
  simp only [sepB, Bool.and_eq_true, Bool.not_eq_true', beq_eq_false_iff_ne, ne_eq] at hsep
  obtain ⟨⟨⟨⟨⟨⟨d1, d2⟩, d3⟩, d4⟩, d5⟩, d6⟩, d7⟩ := hsep
  refine loop_mk (fun m s' => ∃ k : Nat, k ≤ l.length ∧ m = l.length - k ∧ s'.sl ix = .t (.int .i64 k) ∧ s'.sl ln = .t (.int .i64 l.length) ∧ J k s' ∧ (∀ t, (c :: nx :: ix :: writes body).contains t = false → s'.sl t = s.sl t)) l.length
    ⟨0, Nat.zero_le _, rfl, hix, hln, h0, fun _ _ => rfl⟩ ?_
  rintro _ s' ⟨k, hk, rfl, h1, h2, hJ, hf⟩ _ G hG
  have hf' : ∀ t u, (c :: nx :: ix :: writes body).contains t = false → (upd s'.sl c u) t = s.sl t := fun t u ht => by
    rw [upd_ne _ _ _ _ (by intro e; subst e; simp at ht)]; exact hf t ht
  simp only [kont_seq, kont_region, kont_binOp, ev_tmp, h1, h2, bin_lss, stK_some, kont_ops_nil, kont_cond, put_some, upd_eq, boolOf_bool]
  refine cdK_split (fun hc => ?_) (fun hc => ?_)
  · have hlt : k < l.length := by simpa using hc
    simp only [kont_seq, kont_skip, kont_block]
    rw [← kont_split]
    have hs1 : (upd s'.sl c (.t (.bool (decide ((k : Int) < l.length))))) ix = .t (.int .i64 k) := by rw [upd_ne _ _ _ _ (Ne.symm d1)]; exact h1
    have hs2 : (upd s'.sl c (.t (.bool (decide ((k : Int) < l.length))))) ln = .t (.int .i64 l.length) := by rw [upd_ne _ _ _ _ (Ne.symm d2)]; exact h2
    refine kont_back_mono (fun s'' ⟨hJ', hfr⟩ => ?_) (kont_frame (hr k l[k] ⟨upd s'.sl c (.t (.bool (decide ((k : Int) < l.length)))), s'.hp⟩ (List.getElem?_eq_getElem hlt) (List.drop_eq_getElem_cons hlt) hlt (hst1 _ _ _ hJ) hs1 (fun t ht => hf' t _ ht) (J (k + 1)) (fun s'' hJ' => hJ')))
    have e1 : s''.sl ix = .t (.int .i64 k) := (hfr ix d6).trans hs1
    have e2 : s''.sl ln = .t (.int .i64 l.length) := (hfr ln d7).trans hs2
    simp only [kont_region, List.toList_toArray, kont_binOp, ev_tmp, ev_int, e1, bin_add, stK_some, put_some, kont_move, upd_eq, kont_ops_nil, kont_back, wrap_succ (Nat.lt_of_lt_of_le hlt hmax)]
    refine hG (l.length - (k + 1)) _ (by omega) ⟨k + 1, hlt, rfl, upd_eq _ _ _, ?_, hst _ _ _ _ hJ', fun t ht => ?_⟩
    · simp only; rw [upd_ne _ _ _ _ (Ne.symm d5), upd_ne _ _ _ _ (Ne.symm d4)]; exact e2
    · have h5 : (writes body).contains t = false := by simp only [List.contains_cons, Bool.or_eq_false_iff] at ht; exact ht.2.2.2
      have h6 : t ≠ ix := by intro e; subst e; simp at ht
      have h7 : t ≠ nx := by intro e; subst e; simp at ht
      simp only
      rw [upd_ne _ _ _ _ h6, upd_ne _ _ _ _ h7, hfr t h5]
      exact hf' t _ ht
  · have hkl : k = l.length := by simp at hc; omega
    subst hkl
    simp only [kont_exit, kont_code_exit, kont_back_exit]
    exact he _ (hst1 _ _ _ hJ) (fun t ht => hf' t _ ht)

/-! ## lengths -/
mutual
def Tr.sized : Tr → Bool
  | .agg l => sizedL l
  | .tup l => sizedL l
  | .sl _ l => decide (l.length ≤ 9223372036854775807) && sizedL l
  | .fn _ l => sizedL l
  | _ => true
def sizedL : List Tr → Bool
  | [] => true
  | x :: r => x.sized && sizedL r
end
theorem sizedL_mem {l : List Tr} : sizedL l = true ↔ ∀ x ∈ l, x.sized = true := by
  induction l with
  | nil => simp [sizedL]
  | cons a l ih => simp [sizedL, ih]
theorem sized_of_cells {x : Tr} (hx : ∀ y ∈ x.cells, y.sized = true) (h : ∀ l, x = .agg l → x.cells = l) : x.sized = true := by
  cases x with
  | agg l => simp only [Tr.sized, sizedL_mem]; exact hx
  | _ => exact hx _ (by simp [Tr.cells])
theorem mem_flat {l : List Tr} {x y : Tr} (hx : x ∈ l) (hy : y ∈ x.cells) : y ∈ flat l := List.mem_flatMap.2 ⟨x, hx, hy⟩
theorem Reads.sized {w : World} {L : Nat → Prop} {x : Tr} {v : Value} (hr : Reads w L x v) : x.sized = true := by
  induction hr with
  | agg hl h ih => simp only [Tr.sized, sizedL_mem]; intro x hx; obtain ⟨i, hi⟩ := List.mem_iff_getElem?.1 hx; exact ih i x hi
  | tup hl h ih => simp only [Tr.sized, sizedL_mem]; intro x hx; obtain ⟨i, hi⟩ := List.mem_iff_getElem?.1 hx; exact ih i x hi
  | fn hl h ih => simp only [Tr.sized, sizedL_mem]; intro x hx; obtain ⟨i, hi⟩ := List.mem_iff_getElem?.1 hx; exact ih i x hi
  | @sl l a cap esz vals hs hc hm he hcell h ih =>
    simp only [Tr.sized, Bool.and_eq_true, decide_eq_true_eq, sizedL_mem]
    refine ⟨Nat.le_trans hc (by simpa [maxLen] using hm), fun x hx => sized_of_cells (fun y hy => ?_) (fun l e => by subst e; rfl)⟩
    obtain ⟨i, hi⟩ := List.mem_iff_getElem?.1 (mem_flat hx hy)
    exact ih i y hi
  | nil => rfl
  | _ => rfl
/-- what is handed over is of bounded length -/
theorem dcall_sized {g : FuncId} {args : List Tr} {x : Tr} (he : Enters P g) (hd : sizedL args = true → DCall P g args x) : DCall P g args x := by
  refine ⟨he, fun w A vs hA hr => ?_⟩
  refine (hd (sizedL_mem.2 fun y hy => ?_)).2 w A vs hA hr
  obtain ⟨i, hi⟩ := List.mem_iff_getElem?.1 hy
  exact (hr.2 i y hi).sized
/-- A FUNCTION'S CONTRACT, with what is known of lengths. -/
theorem dcall_mk {g : FuncId} {fn : Func} {c : Code} {args : List Tr} {x : Tr} (hm : P.follows .mixedOrders = true) (hf : P.funcs[g]? = some fn) (hb : fn.body = some c) (hname : (fn.name == "runtime.NumGoroutine") = false)
    (mu : Nat → Bool) (hok : codeOK mu fn.ntmps c = true) (hn : Nat.ble args.length fn.ntmps = true) (hw : sizedL args = true → kont P mu (endK P fn x) [.code c] .normal (initSt args)) : DCall P g args x :=
  dcall_sized ⟨fn, hf, hname, by simp [hb]⟩ fun hs => dcall_of_wp hm hf hb hname mu hok (Nat.le_of_ble_eq_true hn) (by rw [kont_start]; exact hw hs)
attribute [go_sem] sizedL Tr.sized
@[go_sem] theorem sizedL_ints (k : IntKind) (l : List Int) : sizedL (l.map (Tr.int k)) = true := by induction l with | nil => rfl | cons a l ih => simp [sizedL, Tr.sized, ih]

/-! ## rows of one's own -/
def elemOK (ag : Bool) (esz : Nat) (x : Tr) : Prop := (ag = true → x = .agg x.cells) ∧ (ag = false → x.cells = [x]) ∧ x.cells.length = esz
/-- v is the nil slice or a live row of the site that reads l -/
structure Own (h : Hp) (site : Nat) (e : TypeId) (esz : Nat) (ag : Bool) (v : PV) (nn : Bool) (l : List Tr) : Prop where
  ok : ∀ x ∈ l, elemOK ag esz x
  is : (nn = false ∧ l = [] ∧ v = .t (.sl false [])) ∨ (nn = true ∧ ∃ id : Id, id.1 = site ∧ v = .rf id l.length ∧ hget h id = some ⟨(flat l).map .t, esz, l.length, e, ag, true⟩)

theorem Own.nil {site : Nat} {e : TypeId} {esz : Nat} {ag : Bool} : Own h site e esz ag (.t (.sl false [])) false [] := ⟨fun _ h => by simp at h, .inl ⟨rfl, rfl, rfl⟩⟩
theorem Own.frame {h' : Hp} {site : Nat} {e : TypeId} {esz : Nat} {ag nn : Bool} {v : PV} {l : List Tr} (ho : Own h site e esz ag v nn l) (hs : h' site = h site) : Own h' site e esz ag v nn l := by
  refine ⟨ho.ok, ?_⟩
  rcases ho.is with h1 | ⟨h0, id, h1, h2, h3⟩
  · exact .inl h1
  · refine .inr ⟨h0, id, h1, h2, ?_⟩
    unfold hget at h3 ⊢
    rw [h1, hs, ← h1]; exact h3
theorem flat_append (a b : List Tr) : flat (a ++ b) = flat a ++ flat b := by simp [flat]
theorem flat_len {ag : Bool} {esz : Nat} {l : List Tr} (hl : ∀ x ∈ l, elemOK ag esz x) : (flat l).length = l.length * esz := flat_length l esz fun x hx => (hl x hx).2.2
theorem chunk_flat {esz : Nat} : ∀ {l : List Tr}, (∀ x ∈ l, elemOK true esz x) → chunk esz l.length (flat l) = l
  | [], _ => rfl
  | a :: l, hl => by
    have ha := hl a (by simp)
    have ih := chunk_flat (fun x hx => hl x (List.mem_cons_of_mem _ hx))
    simp only [flat] at ih
    simp only [List.length_cons, chunk, flat, List.flatMap_cons]
    rw [List.take_left' ha.2.2, List.drop_left' ha.2.2, ih, ← ha.1 rfl]
theorem elems_flat {ag : Bool} {esz : Nat} {l : List Tr} (hl : ∀ x ∈ l, elemOK ag esz x) : elems ag esz l.length (flat l) = l := by
  cases ag with
  | true => exact chunk_flat hl
  | false => exact flat_one l fun x hx => (hl x hx).2.1 rfl
theorem toTr_rf' (k : Nat) (id : Id) (n : Nat) : toTr h (k + 1) (.rf id n) = (match hget h id with | some o => if o.len = n then (match mapO (toTr h k) o.cs with | some ts => some (.sl true (elems o.ag o.esz o.len ts)) | none => none) else none | none => none) := rfl
theorem Own.toTr {site : Nat} {e : TypeId} {esz : Nat} {ag nn : Bool} {v : PV} {l : List Tr} (ho : Own h site e esz ag v nn l) (k : Nat) : toTr h (k + 1) v = some (.sl nn l) := by
  rcases ho.is with ⟨h0, h1, h2⟩ | ⟨h0, id, h1, h2, h3⟩
  · subst h0; subst h1; subst h2; rfl
  · subst h2; subst h0
    rw [toTr_rf', h3]
    simp only [if_true, mapO_t, elems_flat ho.ok]
theorem Own.dep {site : Nat} {e : TypeId} {esz : Nat} {ag nn : Bool} {v : PV} {l : List Tr} (ho : Own h site e esz ag v nn l) : Go.Vm.toTr h dep v = some (.sl nn l) := ho.toTr 5
theorem Own.one {site : Nat} {e : TypeId} {esz : Nat} {ag nn : Bool} {v : PV} {l : List Tr} (ho : Own h site e esz ag v nn l) : v.one = true ∧ v.cells = [v] := by
  rcases ho.is with ⟨_, _, rfl⟩ | ⟨_, _, _, rfl, _⟩ <;> exact ⟨rfl, rfl⟩
theorem Own.len {site : Nat} {e : TypeId} {esz : Nat} {ag nn : Bool} {v : PV} {l : List Tr} (ho : Own h site e esz ag v nn l) : lenX false true h v = some (.t (.int .i64 l.length)) := by
  rcases ho.is with ⟨_, rfl, rfl⟩ | ⟨_, id, _, rfl, h3⟩
  · rfl
  · simp [lenX, lenPV, valid, h3]
@[go_sem] theorem hnew_site {s' d : Nat} (o : Obj) (hd : (d == s') = false) : hnew h s' o d = h d := by
  unfold hnew upd
  rw [if_neg (by simpa using hd)]
theorem hset_site {id : Id} {d : Nat} (o : Obj) (hd : (d == id.1) = false) : hset h id o d = h d := by
  unfold hset upd
  rw [if_neg (by simpa using hd)]

/-- APPEND to a row of one's own. -/
theorem append_own {d : Nat} {t e : TypeId} {esz : Nat} {ag nn nn' : Bool} {v : PV} {l xs : List Tr} (hmu : mu d = true) (hel : elemB P t = some e) (hsz : P.cellsOf e = esz) (hpos : 0 < esz) (hz : ∃ z, zeroB P e = some z ∧ z.length = esz) (hag : aggB P e = some ag) (h1 : ag = true ∨ esz = 1)
    (ho : Own h d e esz ag v nn l) (hx : ∀ x ∈ xs, elemOK ag esz x) (hb : (l.length + xs.length) * P.bytesOf e ≤ 140737488355328 ∧ l.length + xs.length ≤ 4611686018427387904) :
    ∃ v' h', appendPV P mu (some d) t v (.t (.sl nn' xs)) h = some (v', h') ∧ Own h' d e esz ag v' (nn || !xs.isEmpty) (l ++ xs) ∧ ∀ site, (site == d) = false → h' site = h site := by
  obtain ⟨z, hz1, hz2⟩ := hz
  have hfl : (flat xs).length = xs.length * esz := flat_len hx
  have hsrc : srcPV P e (.t (.sl nn' xs)) h = some (xs.length, (flat xs).map .t) := by
    simp only [srcPV, hfl, hsz, if_true]
  have hempty : xs.length = 0 ↔ xs = [] := by constructor <;> intro h <;> simp_all
  unfold appendPV
  simp only [hel, hz1, hsrc, hz2, hsz, hpos, and_self, if_true]
  rcases ho.is with ⟨h0, h2, h3⟩ | ⟨h0, id, h2, h3, h4⟩
  · subst h2; subst h3; subst h0
    simp only
    by_cases hx0 : xs.length = 0
    · rw [if_pos hx0]
      have := hempty.1 hx0; subst this
      exact ⟨_, _, rfl, Own.nil, fun _ _ => rfl⟩
    · rw [if_neg hx0, if_pos ⟨trivial, by simpa using hb.1, by simpa using hb.2⟩]
      have hne : xs ≠ [] := fun e => hx0 (hempty.2 e)
      refine ⟨.rf (hnext h d) xs.length, hnew h d ⟨(flat xs).map .t, esz, xs.length, e, ag, true⟩, ?_, ⟨by simpa using hx, .inr ⟨by cases xs <;> simp_all, hnext h d, rfl, by simp, by rw [hget_new]; simp⟩⟩, fun site hs => hnew_site _ hs⟩
      · unfold newRowPV
        simp only [hag, hsz, hmu, if_true]
        rw [if_neg]
        rintro ⟨h5, h6⟩
        rcases h1 with h1 | h1
        · rw [h5] at h1; cases h1
        · exact h6 h1
  · subst h3; subst h0
    simp only [h4, Bool.true_or]
    rw [if_pos ⟨trivial, trivial, trivial, trivial, by simpa using hb.1, by simpa using hb.2⟩]
    by_cases hx0 : xs.length = 0
    · rw [if_pos hx0]
      have := hempty.1 hx0; subst this
      refine ⟨_, _, rfl, ?_, fun _ _ => rfl⟩
      simpa using ho
    · rw [if_neg hx0]
      refine ⟨_, _, rfl, ⟨fun x hx' => (List.mem_append.1 hx').elim (ho.ok x) (hx x), .inr ⟨rfl, id, h2, by simp, ?_⟩⟩, fun site hs => hset_site _ (by rw [h2]; exact hs)⟩
      rw [hget_hset, if_pos rfl, h4]
      simp [flat_append]
theorem hpK_append {d : Nat} {t e : TypeId} {esz : Nat} {ag nn nn' : Bool} {v : PV} {l xs : List Tr} (ho : Own h d e esz ag v nn l) (hmu : mu d = true) (hel : elemB P t = some e) (hsz : P.cellsOf e = esz) (hz : (zeroB P e).map List.length = some esz) (hag : aggB P e = some ag) (h1 : (Nat.blt 0 esz && (ag || esz == 1)) = true)
    (hby : Nat.ble (P.bytesOf e) 128 = true) (hx : ∀ x ∈ xs, elemOK ag esz x) (hb : l.length + xs.length ≤ 1099511627776)
    (hk : ∀ v' h', Own h' d e esz ag v' (nn || !xs.isEmpty) (l ++ xs) → (∀ site, (site == d) = false → h' site = h site) → kont P mu F r .normal ⟨upd s.sl d v', h'⟩) :
    hpK P mu F (appendPV P mu (some d) t v (.t (.sl nn' xs)) h) (some d) r s := by
  simp only [Bool.and_eq_true, Bool.or_eq_true, beq_iff_eq] at h1
  obtain ⟨v', h', h2, h3, h4⟩ := append_own (nn' := nn') hmu hel hsz (by have := h1.1; simp [Nat.blt] at this; omega) (by
    cases hzz : zeroB P e with
    | none => rw [hzz] at hz; cases hz
    | some z => rw [hzz] at hz; exact ⟨z, rfl, by simpa using hz⟩) hag h1.2 ho hx ⟨by
      have := Nat.mul_le_mul hb (Nat.le_of_ble_eq_true hby); omega, by omega⟩
  rw [h2, hpK_some]
  exact hk v' h' h3 h4
theorem Own.snoc {α : Type} {f : α → Tr} {xs : List α} {a : α} {d : Nat} {e : TypeId} {esz : Nat} {ag nn : Bool} {v : PV} (ho : Own h d e esz ag v (nn || !([f a] : List Tr).isEmpty) (xs.map f ++ [f a])) : Own h d e esz ag v (!(xs ++ [a]).isEmpty) ((xs ++ [a]).map f) := by
  have e1 : (!(xs ++ [a]).isEmpty) = (nn || !([f a] : List Tr).isEmpty) := by cases xs <;> simp
  rw [e1, List.map_append]; exact ho
theorem ok_int (k : IntKind) (n : Int) : ∀ x ∈ [Tr.int k n], elemOK false 1 x := by intro x hx; simp at hx; subst hx; exact ⟨(fun h => nomatch h), fun _ => rfl, rfl⟩
theorem ok_agg (cs : List Tr) (n : Nat) (h : cs.length = n) : ∀ x ∈ [Tr.agg cs], elemOK true n x := by intro x hx; simp at hx; subst hx; exact ⟨fun _ => rfl, (fun h => nomatch h), h⟩

/-! a row that is not nil may be appended to by any site -/
theorem append_any {d site : Nat} {t e : TypeId} {esz : Nat} {ag nn' : Bool} {v : PV} {l xs : List Tr} (hel : elemB P t = some e) (hsz : P.cellsOf e = esz) (hpos : 0 < esz) (hz : ∃ z, zeroB P e = some z ∧ z.length = esz)
    (ho : Own h site e esz ag v true l) (hx : ∀ x ∈ xs, elemOK ag esz x) (hb : (l.length + xs.length) * P.bytesOf e ≤ 140737488355328 ∧ l.length + xs.length ≤ 4611686018427387904) :
    ∃ v' h', appendPV P mu (some d) t v (.t (.sl nn' xs)) h = some (v', h') ∧ Own h' site e esz ag v' true (l ++ xs) ∧ ∀ s', (s' == site) = false → h' s' = h s' := by
  obtain ⟨z, hz1, hz2⟩ := hz
  have hfl : (flat xs).length = xs.length * esz := flat_len hx
  have hsrc : srcPV P e (.t (.sl nn' xs)) h = some (xs.length, (flat xs).map .t) := by
    simp only [srcPV, hfl, hsz, if_true]
  have hempty : xs.length = 0 ↔ xs = [] := by constructor <;> intro h <;> simp_all
  unfold appendPV
  simp only [hel, hz1, hsrc, hz2, hsz, hpos, and_self, if_true]
  rcases ho.is with ⟨h0, h2, h3⟩ | ⟨h0, id, h2, h3, h4⟩
  · cases h0
  · subst h3
    simp only [h4]
    rw [if_pos ⟨trivial, trivial, trivial, trivial, by simpa using hb.1, by simpa using hb.2⟩]
    by_cases hx0 : xs.length = 0
    · rw [if_pos hx0]
      have := hempty.1 hx0; subst this
      refine ⟨_, _, rfl, ?_, fun _ _ => rfl⟩
      simpa using ho
    · rw [if_neg hx0]
      refine ⟨_, _, rfl, ⟨fun x hx' => (List.mem_append.1 hx').elim (ho.ok x) (hx x), .inr ⟨rfl, id, h2, by simp, ?_⟩⟩, fun s' hs => hset_site _ (by rw [h2]; exact hs)⟩
      rw [hget_hset, if_pos rfl, h4]
      simp [flat_append]
theorem hpK_append_any {d site : Nat} {t e : TypeId} {esz : Nat} {ag nn' : Bool} {v : PV} {l xs : List Tr} (ho : Own h site e esz ag v true l) (hel : elemB P t = some e) (hsz : P.cellsOf e = esz) (hz : (zeroB P e).map List.length = some esz) (h1 : Nat.blt 0 esz = true)
    (hby : Nat.ble (P.bytesOf e) 128 = true) (hx : ∀ x ∈ xs, elemOK ag esz x) (hb : l.length + xs.length ≤ 1099511627776)
    (hk : ∀ v' h', Own h' site e esz ag v' true (l ++ xs) → (∀ s', (s' == site) = false → h' s' = h s') → kont P mu F r .normal ⟨upd s.sl d v', h'⟩) :
    hpK P mu F (appendPV P mu (some d) t v (.t (.sl nn' xs)) h) (some d) r s := by
  obtain ⟨v', h', h2, h3, h4⟩ := append_any (mu := mu) (d := d) (nn' := nn') hel hsz (by simp [Nat.blt] at h1; omega) (by
    cases hzz : zeroB P e with
    | none => rw [hzz] at hz; cases hz
    | some z => rw [hzz] at hz; exact ⟨z, rfl, by simpa using hz⟩) ho hx ⟨by
      have := Nat.mul_le_mul hb (Nat.le_of_ble_eq_true hby); omega, by omega⟩
  rw [h2, hpK_some]
  exact hk v' h' h3 h4
theorem Own.fresh {d : Nat} {e : TypeId} {esz : Nat} {ag : Bool} {l : List Tr} (hl : ∀ x ∈ l, elemOK ag esz x) : Own (hnew h d ⟨(flat l).map .t, esz, l.length, e, ag, true⟩) d e esz ag (.rf (hnext h d) l.length) true l :=
  ⟨hl, .inr ⟨rfl, _, rfl, rfl, hget_new _ _⟩⟩
theorem ok_ints (k : IntKind) (l : List Int) : ∀ x ∈ l.map (Tr.int k), elemOK false 1 x := by
  intro x hx
  obtain ⟨n, _, rfl⟩ := List.mem_map.1 hx
  exact ⟨(fun h => nomatch h), fun _ => rfl, rfl⟩

/-! nil slices are empty -/
mutual
def Tr.wf : Tr → Bool
  | .agg l => wfL l
  | .tup l => wfL l
  | .sl nn l => (nn || l.isEmpty) && wfL l
  | .fn _ l => wfL l
  | .ptr l => wfL l
  | _ => true
def wfL : List Tr → Bool
  | [] => true
  | x :: r => x.wf && wfL r
end
theorem wfL_mem {l : List Tr} : wfL l = true ↔ ∀ x ∈ l, x.wf = true := by
  induction l with
  | nil => simp [wfL]
  | cons a l ih => simp [wfL, ih]
theorem Reads.wf {w : World} {L : Nat → Prop} {x : Tr} {v : Value} (hr : Reads w L x v) : x.wf = true := by
  induction hr with
  | agg hl h ih => simp only [Tr.wf, wfL_mem]; intro x hx; obtain ⟨i, hi⟩ := List.mem_iff_getElem?.1 hx; exact ih i x hi
  | tup hl h ih => simp only [Tr.wf, wfL_mem]; intro x hx; obtain ⟨i, hi⟩ := List.mem_iff_getElem?.1 hx; exact ih i x hi
  | fn hl h ih => simp only [Tr.wf, wfL_mem]; intro x hx; obtain ⟨i, hi⟩ := List.mem_iff_getElem?.1 hx; exact ih i x hi
  | ptr hs hcell h ih => simp only [Tr.wf, wfL_mem]; intro x hx; obtain ⟨i, hi⟩ := List.mem_iff_getElem?.1 hx; exact ih i x hi
  | @sl l a cap esz vals hs hc hm he hcell h ih =>
    simp only [Tr.wf, Bool.true_or, Bool.true_and, wfL_mem]
    intro x hx
    have key : ∀ y ∈ x.cells, y.wf = true := fun y hy => by
      obtain ⟨i, hi⟩ := List.mem_iff_getElem?.1 (mem_flat hx hy)
      exact ih i y hi
    cases x with
    | agg l => simp only [Tr.wf, wfL_mem]; exact key
    | _ => exact key _ (by simp [Tr.cells])
  | nil => rfl
  | _ => rfl
theorem dcall_wf {g : FuncId} {args : List Tr} {x : Tr} (he : Enters P g) (hd : wfL args = true → DCall P g args x) : DCall P g args x := by
  refine ⟨he, fun w A vs hA hr => ?_⟩
  refine (hd (wfL_mem.2 fun y hy => ?_)).2 w A vs hA hr
  obtain ⟨i, hi⟩ := List.mem_iff_getElem?.1 hy
  exact (hr.2 i y hi).wf

theorem toTr_ints {id : Id} {l : List Tr} {esz n : Nat} {e : TypeId} {lv : Bool} (k : Nat) (hg : hget h id = some ⟨l.map .t, esz, n, e, false, lv⟩) : toTr h (k + 1) (.rf id n) = some (.sl true l) := by
  rw [toTr_rf', hg]; simp only [if_true, mapO_t]; rfl

/-! parts of slices -/
def slcX (c : Option Nat) (fl : Nat) (nn : Bool) (l : List Tr) (a b : Option Int) (h : Hp) : Option (PV × Hp) := match c, a, b with
  | some c, some a, some b => if fl = l.length * c ∧ 0 ≤ a ∧ a ≤ b ∧ b ≤ l.length then some (.t (.sl nn ((l.take b.toNat).drop a.toNat)), h) else none
  | _, _, _ => none
@[go_sem] theorem slicePV_sl (t : TypeId) (nn : Bool) (l : List Tr) (lo hi : Option PV) : slicePV P t (.t (.sl nn l)) lo hi h = slcX ((elemB P t).map P.cellsOf) (flat l).length nn l (lo.elim (some 0) intOf) (hi.elim (some (l.length : Int)) intOf) h := by
  simp only [slicePV, slcX]
  cases elemB P t with
  | none => rfl
  | some e =>
    simp only [Option.map_some]
    cases lo.elim (some 0) intOf <;> cases hi.elim (some (l.length : Int)) intOf <;> simp only <;> (try (split <;> rfl))
    rename_i a b
    by_cases h1 : (flat l).length = l.length * P.cellsOf e
    · rw [if_pos h1]
      by_cases h2 : 0 ≤ a ∧ a ≤ b ∧ b ≤ l.length
      · rw [if_pos h2, if_pos ⟨h1, h2⟩]
      · rw [if_neg h2, if_neg (fun h3 => h2 h3.2)]
    · rw [if_neg h1, if_neg (fun h3 => h1 h3.1)]
@[go_sem] theorem slcX_some (c : Nat) (fl : Nat) (nn : Bool) (l : List Tr) (a b : Int) : slcX (some c) fl nn l (some a) (some b) h = if fl = l.length * c ∧ 0 ≤ a ∧ a ≤ b ∧ b ≤ l.length then some (.t (.sl nn ((l.take b.toNat).drop a.toNat)), h) else none := nrfl rfl
@[go_sem] theorem intOf_int (k : IntKind) (n : Int) : intOf (.t (.int k n)) = some n := nrfl rfl
attribute [go_sem] Option.elim_some Option.elim_none
@[go_sem] theorem flat_ints (k : IntKind) (l : List Int) : flat (l.map (Tr.int k)) = l.map (Tr.int k) := flat_one _ (by simp [Tr.cells])
theorem hpK_if {c : Prop} [Decidable c] {x : PV × Hp} {d : Option Tmp} (hc : c) (hk : hpK P mu F (some x) d r s) : hpK P mu F (if c then some x else none) d r s := by rw [if_pos hc]; exact hk
theorem stK_if {c : Prop} [Decidable c] {x : PV} {d : Option Tmp} (hc : c) (hk : stK P mu F (some x) d r s) : stK P mu F (if c then some x else none) d r s := by rw [if_pos hc]; exact hk
theorem stK_ifn {c : Prop} [Decidable c] {x : PV} {d : Option Tmp} (hc : ¬ c) (hk : stK P mu F (some x) d r s) : stK P mu F (if c then none else some x) d r s := by rw [if_neg hc]; exact hk
theorem wrK_if {c : Prop} [Decidable c] {x : Hp} {d : Option Tmp} (hc : c) (hk : wrK P mu F (some x) d r s) : wrK P mu F (if c then some x else none) d r s := by rw [if_pos hc]; exact hk

/-! objects known by their place -/
@[go_sem] theorem hget_set_same (id : Id) (o : Obj) : hget (hset h id o) id = (hget h id).map fun _ => o := by
  rw [hget_hset, if_pos rfl]; cases hget h id <;> rfl
@[go_sem] theorem hget_set_ne {id id' : Id} (o : Obj) (hn : (id'.1 == id.1) = false) : hget (hset h id o) id' = hget h id' := by
  rw [hget_hset, if_neg]; intro e; subst e; simp at hn
@[go_sem] theorem hget_new_lit {a b s' : Nat} (o : Obj) (hn : (a == s') = false) : hget (hnew h s' o) (a, b) = hget h (a, b) := by
  refine hget_new_ne ?_; simpa using hn
attribute [go_sem] hset_site
theorem hget_site {h' : Hp} {id : Id} (hs : h' id.1 = h id.1) : hget h' id = hget h id := by unfold hget; rw [hs]
end
end Go.Vm
