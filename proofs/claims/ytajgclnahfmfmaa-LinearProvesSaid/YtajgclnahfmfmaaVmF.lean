/- The abstract machine: the rewriting rules of its operations. -/
import Derived.Test.YtajgclnahfmfmaaVmE
namespace Go.Vm
open Go

section
variable {P : Program} {mu : Nat → Bool} {F : Ex → St → Prop} {r : List Item} {s : St} {h : Hp}

attribute [go_sem] Option.map_some Option.map_none List.map_cons List.map_nil List.length_map List.length_cons List.length_nil List.take_succ_cons List.take_zero List.drop_succ_cons List.drop_zero List.take_nil List.drop_nil
  List.getElem?_cons_zero List.getElem?_cons_succ List.getElem?_nil List.getElem?_map List.all_cons List.all_nil List.cons_append List.nil_append List.flatMap_cons List.flatMap_nil
  Bool.and_true Bool.true_and Bool.and_false Bool.false_and Bool.or_false Bool.false_or Bool.or_true Bool.true_or Bool.not_true Bool.not_false
  and_true true_and and_false false_and if_true if_false ite_true ite_false reduceIte Int.toNat_natCast Int.natCast_nonneg reduceCtorEq Bool.false_eq_true Bool.true_eq_false true_or or_true false_or or_false not_true_eq_false not_false_eq_true ne_eq Option.isSome_some decide_true decide_false List.toList_toArray

/-! slots -/
@[go_sem] theorem upd_app {α : Type} (f : Nat → α) (t u : Nat) (v : α) : upd f t v u = bif u == t then v else f u := by
  unfold upd
  by_cases hu : u = t
  · subst hu; simp
  · rw [beq_false_of_ne hu, if_neg hu]; rfl
@[go_sem] theorem cond_t {α : Type} (a b : α) : (bif true then a else b) = a := nrfl rfl
@[go_sem] theorem cond_f {α : Type} (a b : α) : (bif false then a else b) = b := nrfl rfl
@[go_sem] theorem put_some (d : Tmp) (v : PV) : St.put s (some d) v = ⟨upd s.sl d v, s.hp⟩ := nrfl rfl
@[go_sem] theorem put_none (v : PV) : St.put s none v = s := nrfl rfl
@[go_sem] theorem ev_tmp (sl : Sl) (t : Tmp) : ev sl (.tmp t) = sl t := nrfl rfl
@[go_sem] theorem ev_func (sl : Sl) (f : FuncId) : ev sl (.func f) = .t (.fn f []) := nrfl rfl
@[go_sem] theorem ev_int (sl : Sl) (k : IntKind) (n : Int) : ev sl (.const (.int k n)) = .t (.int k n) := nrfl rfl
@[go_sem] theorem ev_bool (sl : Sl) (b : Bool) : ev sl (.const (.bool b)) = .t (.bool b) := nrfl rfl
@[go_sem] theorem ev_str (sl : Sl) (b : ByteArray) : ev sl (.const (.string b)) = .t (.str b) := nrfl rfl
@[go_sem] theorem ev_nil (sl : Sl) : ev sl (.const (.slice none 0 0)) = .t (.sl false []) := nrfl rfl
@[go_sem] theorem ev_nilp (sl : Sl) : ev sl (.const (.pointer none)) = .t .nilp := nrfl rfl
@[go_sem] theorem evs_nil (sl : Sl) : evs sl [] = [] := nrfl rfl
@[go_sem] theorem evs_cons (sl : Sl) (x : Operand) (l : List Operand) : evs sl (x :: l) = ev sl x :: evs sl l := nrfl rfl
@[go_sem] theorem boolOf_bool (b : Bool) : boolOf (.t (.bool b)) = some b := nrfl rfl
@[go_sem] theorem initSl_app (args : List Tr) (t : Nat) : initSl args t = (match args[t]? with | some x => x.pv | none => .undef) := nrfl rfl
@[go_sem] theorem initSt_sl (args : List Tr) : (initSt args).sl = initSl args := nrfl rfl
@[go_sem] theorem initSt_hp (args : List Tr) : (initSt args).hp = fun _ => [] := nrfl rfl

@[go_sem] theorem pv_int (k : IntKind) (n : Int) : (Tr.int k n).pv = .t (.int k n) := nrfl rfl
@[go_sem] theorem pv_bool (b : Bool) : (Tr.bool b).pv = .t (.bool b) := nrfl rfl
@[go_sem] theorem pv_str (b : ByteArray) : (Tr.str b).pv = .t (.str b) := nrfl rfl
@[go_sem] theorem pv_agg (l : List Tr) : (Tr.agg l).pv = .t (.agg l) := nrfl rfl
@[go_sem] theorem pv_tup (l : List Tr) : (Tr.tup l).pv = .t (.tup l) := nrfl rfl
@[go_sem] theorem pv_sl (nn : Bool) (l : List Tr) : (Tr.sl nn l).pv = .t (.sl nn l) := nrfl rfl
@[go_sem] theorem pv_fn (f : FuncId) (l : List Tr) : (Tr.fn f l).pv = .t (.fn f l) := nrfl rfl
@[go_sem] theorem pv_nilp : Tr.nilp.pv = .t .nilp := nrfl rfl
@[go_sem] theorem pv_ptr (cs : List Tr) : (Tr.ptr cs).pv = .ro cs := nrfl rfl
@[go_sem] theorem lift_t (x : Tr) : (PV.t x).lift = .t x := nrfl rfl
@[go_sem] theorem lift_ro (cs : List Tr) : (PV.ro cs).lift = .t (.ptr cs) := nrfl rfl
@[go_sem] theorem lift_rf (id : Id) (n : Nat) : (PV.rf id n).lift = .rf id n := nrfl rfl
@[go_sem] theorem lift_ad (id : Id) (n off : Nat) : (PV.ad id n off).lift = .ad id n off := nrfl rfl
@[go_sem] theorem toTr_ro (k : Nat) (cs : List Tr) : toTr h (k + 1) (.ro cs) = some (.ptr cs) := nrfl rfl
@[go_sem] theorem toTr_ro_dep (cs : List Tr) : toTr h dep (.ro cs) = some (.ptr cs) := nrfl rfl

/-! guards -/
def guardV (p : PV) : Option (Option Bool) := match p with | .t (.bool b) => some (some b) | .skip => some none | _ => none
@[go_sem] theorem guardV_bool (b : Bool) : guardV (.t (.bool b)) = some (some b) := nrfl rfl
@[go_sem] theorem guardV_skip : guardV .skip = some none := nrfl rfl
@[go_sem] theorem guardPV_succ (o : Oper) (l : List Oper) (sl : Sl) (j : Nat) : guardPV (o :: l) sl (j + 1) = guardPV l sl j := nrfl rfl
@[go_sem] theorem guardPV_zero (d : Tmp) (op : Op) (ty : TypeId) (ps : String) (af : Array Edge) (g : Option (Nat × Bool)) (l : List Oper) (sl : Sl) : guardPV (⟨some d, op, ty, ps, af, g⟩ :: l) sl 0 = guardV (sl d) := nrfl rfl

@[go_sem] theorem homedX_tmp (sl : Sl) (d : Tmp) : homedX mu (.tmp d) sl = bif mu (1000000 + d) then (sl d).at_ d else true := by
  unfold homedX homeX
  cases h : mu (1000000 + d) <;> simp [h]
@[go_sem] theorem at_ad (id : Id) (n off d : Nat) : (PV.ad id n off).at_ d = (id.1 == d) := nrfl rfl

/-! cells -/
@[go_sem] theorem cells_int (k : IntKind) (n : Int) : (PV.t (.int k n)).cells = [.t (.int k n)] := nrfl rfl
@[go_sem] theorem cells_bool (b : Bool) : (PV.t (.bool b)).cells = [.t (.bool b)] := nrfl rfl
@[go_sem] theorem cells_str (b : ByteArray) : (PV.t (.str b)).cells = [.t (.str b)] := nrfl rfl
@[go_sem] theorem cells_sl (nn : Bool) (l : List Tr) : (PV.t (.sl nn l)).cells = [.t (.sl nn l)] := nrfl rfl
@[go_sem] theorem cells_fn (f : FuncId) (l : List Tr) : (PV.t (.fn f l)).cells = [.t (.fn f l)] := nrfl rfl
@[go_sem] theorem cells_agg (l : List Tr) : (PV.t (.agg l)).cells = l.map .t := nrfl rfl
@[go_sem] theorem cells_agg' (l : List PV) : (PV.agg l).cells = l := nrfl rfl
@[go_sem] theorem cells_rf (id : Id) (n : Nat) : (PV.rf id n).cells = [.rf id n] := nrfl rfl
@[go_sem] theorem cells_ro (cs : List Tr) : (PV.ro cs).cells = [.ro cs] := nrfl rfl
@[go_sem] theorem cells_ad (id : Id) (n off : Nat) : (PV.ad id n off).cells = [.ad id n off] := nrfl rfl
@[go_sem] theorem tcells_int (k : IntKind) (n : Int) : (Tr.int k n).cells = [.int k n] := nrfl rfl
@[go_sem] theorem tcells_bool (b : Bool) : (Tr.bool b).cells = [.bool b] := nrfl rfl
@[go_sem] theorem tcells_str (b : ByteArray) : (Tr.str b).cells = [.str b] := nrfl rfl
@[go_sem] theorem tcells_sl (nn : Bool) (l : List Tr) : (Tr.sl nn l).cells = [.sl nn l] := nrfl rfl
@[go_sem] theorem tcells_agg (l : List Tr) : (Tr.agg l).cells = l := nrfl rfl
@[go_sem] theorem one_int (k : IntKind) (n : Int) : (PV.t (.int k n)).one = true := nrfl rfl
@[go_sem] theorem one_bool (b : Bool) : (PV.t (.bool b)).one = true := nrfl rfl
@[go_sem] theorem one_str (b : ByteArray) : (PV.t (.str b)).one = true := nrfl rfl
@[go_sem] theorem one_sl (nn : Bool) (l : List Tr) : (PV.t (.sl nn l)).one = true := nrfl rfl
@[go_sem] theorem one_fn (f : FuncId) (l : List Tr) : (PV.t (.fn f l)).one = true := nrfl rfl
@[go_sem] theorem one_nilp : (PV.t .nilp).one = true := nrfl rfl
@[go_sem] theorem one_rf (id : Id) (n : Nat) : (PV.rf id n).one = true := nrfl rfl
@[go_sem] theorem one_ro (cs : List Tr) : (PV.ro cs).one = true := nrfl rfl
@[go_sem] theorem one_ad (id : Id) (n off : Nat) : (PV.ad id n off).one = true := nrfl rfl
@[go_sem] theorem trees_nil : trees [] = some [] := nrfl rfl
@[go_sem] theorem trees_cons (x : Tr) (l : List PV) : trees (.t x :: l) = (trees l).map (x :: ·) := by simp only [trees]; cases trees l <;> rfl
@[go_sem] theorem trees_map (l : List Tr) : trees (l.map .t) = some l := by induction l with | nil => rfl | cons a l ih => simp [trees, ih]
@[go_sem] theorem trees_cons_rf (id : Id) (n : Nat) (l : List PV) : trees (.rf id n :: l) = none := nrfl rfl
@[go_sem] theorem mkAgg_tree {l : List PV} (hl : (trees l).isSome = true) : mkAgg l = .t (.agg ((trees l).getD [])) := by
  unfold mkAgg; cases h : trees l with
  | none => rw [h] at hl; cases hl
  | some ts => rfl
@[go_sem] theorem mkTup_tree {l : List PV} (hl : (trees l).isSome = true) : mkTup l = .t (.tup ((trees l).getD [])) := by
  unfold mkTup; cases h : trees l with
  | none => rw [h] at hl; cases hl
  | some ts => rfl
@[go_sem] theorem mkFn_tree {f : FuncId} {l : List PV} (hl : (trees (l.map PV.lift)).isSome = true) : mkFn f l = .t (.fn f ((trees (l.map PV.lift)).getD [])) := by
  unfold mkFn; cases h : trees (l.map PV.lift) with
  | none => rw [h] at hl; cases hl
  | some ts => rfl
attribute [go_sem] Option.getD_some
theorem trees_eq : ∀ {l : List PV} {ts : List Tr}, trees l = some ts → l = ts.map .t := trees_get
@[go_sem] theorem cells_mkAgg (l : List PV) : (mkAgg l).cells = l := by
  unfold mkAgg; cases h : trees l with
  | none => rfl
  | some ts => rw [trees_get h]; rfl
def aggX (x : Option (List Tr)) : Option Tr := match x with | some ts => some (.agg ts) | none => none
@[go_sem] theorem aggX_some (ts : List Tr) : aggX (some ts) = some (.agg ts) := nrfl rfl
theorem toTr_mkAgg (k : Nat) (l : List PV) : toTr h (k + 1) (mkAgg l) = aggX (mapO (toTr h k) l) := by
  unfold mkAgg; cases e : trees l with
  | none => rfl
  | some ts => rw [trees_get e, mapO_t]; rfl
@[go_sem] theorem toTr_mkAgg_dep (l : List PV) : toTr h dep (mkAgg l) = aggX (mapO (toTr h 5) l) := toTr_mkAgg 5 l
@[go_sem] theorem isRef_t (x : Tr) : (PV.t x).isRef = false := nrfl rfl
@[go_sem] theorem isRef_ro (x : List Tr) : (PV.ro x).isRef = false := nrfl rfl
@[go_sem] theorem isRef_rf (id : Id) (n : Nat) : (PV.rf id n).isRef = true := nrfl rfl
@[go_sem] theorem isRef_ad (id : Id) (n off : Nat) : (PV.ad id n off).isRef = true := nrfl rfl
@[go_sem] theorem outer_tmp (t : Tmp) : outer mu (.tmp t) = mu t := nrfl rfl
@[go_sem] theorem outer_const (v : Value) : outer mu (.const v) = false := nrfl rfl
@[go_sem] theorem treeX_tmp (t : Tmp) : treeX mu (.tmp t) = mu (2000000 + t) := nrfl rfl
@[go_sem] theorem treeX_const (v : Value) : treeX mu (.const v) = false := nrfl rfl
theorem splice_def' (l : List PV) (off : Nat) (vs : List PV) : splice l off vs = l.take off ++ vs ++ l.drop (off + vs.length) := rfl
@[go_sem] theorem splice_lit (l : List PV) (n : Nat) (vs : List PV) : splice l (no_index (OfNat.ofNat n)) vs = l.take (OfNat.ofNat n) ++ vs ++ l.drop (OfNat.ofNat n + vs.length) := nrfl rfl
theorem set_splice {α : Type} (l : List α) (k : Nat) (a : α) (hk : k < l.length) : l.take k ++ [a] ++ l.drop (k + 1) = l.set k a := by
  induction l generalizing k with
  | nil => simp at hk
  | cons b l ih =>
    cases k with
    | zero => rfl
    | succ k => simp only [List.take_succ_cons, List.cons_append, List.drop_succ_cons, List.set_cons_succ]; rw [← ih k (by simpa using hk)]
@[go_sem] theorem splice_ints {kd : IntKind} {k : Nat} {cur : List Int} {x : Int} (hk : k < cur.length) : splice ((cur.map (Tr.int kd)).map .t) k [.t (.int kd x)] = ((cur.set k x).map (Tr.int kd)).map .t := by
  rw [splice_def', List.map_set, List.map_set]
  exact set_splice _ k _ (by simpa using hk)
attribute [go_sem] Nat.mul_one
@[go_sem] theorem zrow_ints (kd : IntKind) (n : Nat) : zrow [Tr.int kd 0] n = (List.replicate n (0 : Int)).map (Tr.int kd) := by
  induction n with
  | zero => rfl
  | succ n ih => simp only [zrow, ih, List.replicate_succ, List.map_cons, List.cons_append, List.nil_append]

/-! loads -/
def loadX (ag : Option Bool) (n : Nat) (p : PV) (h : Hp) : Option PV := match ag, p with
  | some true, .ro cs => if (cs.take n).length = n then some (.t (.agg (cs.take n))) else none
  | some false, .ro (c :: _) => some (.t c)
  | some true, .ad id m off => match hget h id with
    | some o => if o.len = m ∧ ((o.cs.drop off).take n).length = n then some (mkAgg ((o.cs.drop off).take n)) else none
    | none => none
  | some false, .ad id m off => match hget h id with
    | some o => if o.len = m then o.cs[off]? else none
    | none => none
  | _, _ => none
@[go_sem] theorem loadPV_x (t : TypeId) (p : PV) : loadPV P t p h = loadX (aggB P t) (P.cellsOf t) p h := nrfl rfl
@[go_sem] theorem loadX_ro_agg (n : Nat) (cs : List Tr) : loadX (some true) n (.ro cs) h = if (cs.take n).length = n then some (.t (.agg (cs.take n))) else none := nrfl rfl
@[go_sem] theorem loadX_ro (n : Nat) (c : Tr) (cs : List Tr) : loadX (some false) n (.ro (c :: cs)) h = some (.t c) := nrfl rfl
def ldO (o : Option Obj) (m off : Nat) : Option PV := match o with | some o => if o.len = m then o.cs[off]? else none | none => none
def ldA (o : Option Obj) (m off n : Nat) : Option PV := match o with | some o => if o.len = m ∧ ((o.cs.drop off).take n).length = n then some (mkAgg ((o.cs.drop off).take n)) else none | none => none
@[go_sem] theorem loadX_ad (n : Nat) (id : Id) (m off : Nat) : loadX (some false) n (.ad id m off) h = ldO (hget h id) m off := nrfl rfl
@[go_sem] theorem loadX_ad_agg (n : Nat) (id : Id) (m off : Nat) : loadX (some true) n (.ad id m off) h = ldA (hget h id) m off n := nrfl rfl
@[go_sem] theorem ldO_some (o : Obj) (m off : Nat) : ldO (some o) m off = if o.len = m then o.cs[off]? else none := nrfl rfl
@[go_sem] theorem ldA_some (o : Obj) (m off n : Nat) : ldA (some o) m off n = if o.len = m ∧ ((o.cs.drop off).take n).length = n then some (mkAgg ((o.cs.drop off).take n)) else none := nrfl rfl

/-! stores -/
def stX (o : Option Obj) (h : Hp) (id : Id) (m off : Nat) (ok : Bool) (n : Nat) (cs : List PV) : Option Hp := match o with
  | some o => if o.len = m ∧ o.live = true ∧ ok = true ∧ cs.length = n ∧ off + cs.length ≤ o.cs.length ∧ cs.all PV.one = true then some (hset h id { o with cs := splice o.cs off cs }) else none
  | none => none
@[go_sem] theorem storePV_x (t : TypeId) (id : Id) (m off : Nat) (v : PV) : storePV P t (.ad id m off) v h = stX (hget h id) h id m off (P.info? t).isSome (P.cellsOf t) v.cells := nrfl rfl
@[go_sem] theorem stX_some (o : Obj) (id : Id) (m off : Nat) (ok : Bool) (n : Nat) (cs : List PV) : stX (some o) h id m off ok n cs = if o.len = m ∧ o.live = true ∧ ok = true ∧ cs.length = n ∧ off + cs.length ≤ o.cs.length ∧ cs.all PV.one = true then some (hset h id { o with cs := splice o.cs off cs }) else none := nrfl rfl

/-! addresses -/
def vlX (h : Hp) (id : Id) (n : Nat) (v : PV) : Option PV := if valid h id n then some v else none
def vldO (o : Option Obj) (n : Nat) : Bool := match o with | some o => o.len == n | none => false
@[go_sem] theorem valid_x (id : Id) (n : Nat) : valid h id n = vldO (hget h id) n := nrfl rfl
@[go_sem] theorem vldO_some (o : Obj) (n : Nat) : vldO (some o) n = (o.len == n) := nrfl rfl
def fieldAddrX (f : Option (Nat × TypeId)) (p : PV) (h : Hp) : Option PV := match f with
  | some (off, _) => (match p with
    | .ro cs => some (.ro (cs.drop off))
    | .ad id n o => if valid h id n then some (.ad id n (o + off)) else none
    | _ => none)
  | none => none
@[go_sem] theorem fieldAddrPV_x (t : TypeId) (i : Nat) (p : PV) : fieldAddrPV P t i p h = fieldAddrX (fieldB P t i) p h := nrfl rfl
@[go_sem] theorem fieldAddrX_ro (off : Nat) (ft : TypeId) (cs : List Tr) : fieldAddrX (some (off, ft)) (.ro cs) h = some (.ro (cs.drop off)) := nrfl rfl
@[go_sem] theorem fieldAddrX_ad (off : Nat) (ft : TypeId) (id : Id) (n o : Nat) : fieldAddrX (some (off, ft)) (.ad id n o) h = if valid h id n = true then some (.ad id n (o + off)) else none := nrfl rfl
@[go_sem] theorem nilCheckPV_ro (cs : List Tr) : nilCheckPV h (.ro cs) = some (.ro cs) := nrfl rfl
@[go_sem] theorem nilCheckPV_ad (id : Id) (n off : Nat) : nilCheckPV h (.ad id n off) = if valid h id n = true then some (.ad id n off) else none := nrfl rfl
def idxT (e : Option TypeId) (P : Program) (y : Option Tr) (i : Int) : Option PV := match e with
  | some e => if 0 ≤ i then (match y with | some y => if y.cells.length = P.cellsOf e ∧ 0 < P.cellsOf e then some (.ro y.cells) else none | none => none) else none
  | none => none
def idxO (e : Option TypeId) (P : Program) (o : Option Obj) (id : Id) (n : Nat) (i : Int) : Option PV := match e with
  | some e => (match o with | some o => if o.len = n ∧ o.esz = P.cellsOf e ∧ 0 ≤ i ∧ i.toNat < n then some (.ad id n (i.toNat * o.esz)) else none | none => none)
  | none => none
@[go_sem] theorem indexAddrPV_sl (t : TypeId) (nn : Bool) (l : List Tr) (k : IntKind) (i : Int) : indexAddrPV P t (.t (.sl nn l)) (.t (.int k i)) h = idxT (elemB P t) P l[i.toNat]? i := by
  unfold indexAddrPV idxT; cases elemB P t <;> rfl
@[go_sem] theorem indexAddrPV_rf (t : TypeId) (id : Id) (n : Nat) (k : IntKind) (i : Int) : indexAddrPV P t (.rf id n) (.t (.int k i)) h = idxO (elemB P t) P (hget h id) id n i := by
  unfold indexAddrPV idxO; cases elemB P t <;> rfl
@[go_sem] theorem idxT_some (e : TypeId) (y : Tr) (i : Int) : idxT (some e) P (some y) i = if 0 ≤ i ∧ y.cells.length = P.cellsOf e ∧ 0 < P.cellsOf e then some (.ro y.cells) else none := by
  unfold idxT; by_cases h1 : 0 ≤ i <;> simp [h1]
@[go_sem] theorem idxO_some (e : TypeId) (o : Obj) (id : Id) (n : Nat) (i : Int) : idxO (some e) P (some o) id n i = if o.len = n ∧ o.esz = P.cellsOf e ∧ 0 ≤ i ∧ i.toNat < n then some (.ad id n (i.toNat * o.esz)) else none := nrfl rfl
def fieldX (f : Option (Nat × TypeId)) (P : Program) (p : PV) : Option PV := match f with
  | some (off, ft) => (match aggB P ft, p with
    | some true, .t (.agg l) => some (.t (.agg ((l.drop off).take (P.cellsOf ft))))
    | some false, .t (.agg l) => (match l[off]? with | some x => some (.t x) | none => none)
    | some true, .agg l => some (mkAgg ((l.drop off).take (P.cellsOf ft)))
    | some false, .agg l => l[off]?
    | _, _ => none)
  | none => none
def fld (ag : Option Bool) (n off : Nat) (p : PV) : Option PV := match ag, p with
  | some true, .t (.agg l) => some (.t (.agg ((l.drop off).take n)))
  | some false, .t (.agg l) => (l[off]?).map .t
  | some true, .agg l => some (mkAgg ((l.drop off).take n))
  | some false, .agg l => l[off]?
  | _, _ => none
@[go_sem] theorem fieldPV_x (t : TypeId) (i : Nat) (p : PV) : fieldPV P t i p = fieldX (fieldB P t i) P p := nrfl rfl
@[go_sem] theorem fieldX_some (off : Nat) (ft : TypeId) (p : PV) : fieldX (some (off, ft)) P p = fld (aggB P ft) (P.cellsOf ft) off p := by
  unfold fieldX fld
  simp only
  generalize aggB P ft = ag
  cases ag with
  | none => rfl
  | some b =>
    cases b with
    | true => cases p with
      | t y => cases y <;> rfl
      | _ => rfl
    | false => cases p with
      | t y => cases y with
        | agg l => simp only; cases l[off]? <;> rfl
        | _ => rfl
      | _ => rfl
@[go_sem] theorem fld_ta (n off : Nat) (l : List Tr) : fld (some true) n off (.t (.agg l)) = some (.t (.agg ((l.drop off).take n))) := nrfl rfl
@[go_sem] theorem fld_tf (n off : Nat) (l : List Tr) : fld (some false) n off (.t (.agg l)) = (l[off]?).map .t := nrfl rfl
@[go_sem] theorem fld_aa (n off : Nat) (l : List PV) : fld (some true) n off (.agg l) = some (mkAgg ((l.drop off).take n)) := nrfl rfl
@[go_sem] theorem fld_af (n off : Nat) (l : List PV) : fld (some false) n off (.agg l) = l[off]? := nrfl rfl
@[go_sem] theorem extractPV_t (l : List Tr) (i : Nat) : extractPV (.t (.tup l)) i = (l[i]?).map .t := by
  unfold extractPV; cases h : l[i]? <;> simp [h]
@[go_sem] theorem extractPV_p (l : List PV) (i : Nat) : extractPV (.tup l) i = l[i]? := nrfl rfl

/-! arithmetic -/
section
variable (t : TypeId) (k : IntKind) (a b : Int)
@[go_sem] theorem bin_add : binPV P h .add t (.t (.int k a)) (.t (.int k b)) = some (.t (.int k (k.wrap (a + b)))) := by simp [binPV, arith]
@[go_sem] theorem bin_sub : binPV P h .sub t (.t (.int k a)) (.t (.int k b)) = some (.t (.int k (k.wrap (a - b)))) := by simp [binPV, arith]
@[go_sem] theorem bin_mul : binPV P h .mul t (.t (.int k a)) (.t (.int k b)) = some (.t (.int k (k.wrap (a * b)))) := by simp [binPV, arith]
@[go_sem] theorem bin_quo : binPV P h .quo t (.t (.int k a)) (.t (.int k b)) = if b = 0 then none else some (.t (.int k (k.wrap (a.tdiv b)))) := by simp [binPV, arith]
@[go_sem] theorem bin_rem : binPV P h .rem t (.t (.int k a)) (.t (.int k b)) = if b = 0 then none else some (.t (.int k (a.tmod b))) := by simp [binPV, arith]
@[go_sem] theorem bin_and : binPV P h .and t (.t (.int k a)) (.t (.int k b)) = some (.t (.int k (k.wrap ((BitVec.ofInt k.bits a &&& BitVec.ofInt k.bits b).toNat)))) := by simp [binPV, arith]
@[go_sem] theorem bin_or : binPV P h .or t (.t (.int k a)) (.t (.int k b)) = some (.t (.int k (k.wrap ((BitVec.ofInt k.bits a ||| BitVec.ofInt k.bits b).toNat)))) := by simp [binPV, arith]
@[go_sem] theorem bin_xor : binPV P h .xor t (.t (.int k a)) (.t (.int k b)) = some (.t (.int k (k.wrap ((BitVec.ofInt k.bits a ^^^ BitVec.ofInt k.bits b).toNat)))) := by simp [binPV, arith]
@[go_sem] theorem bin_eql : binPV P h .eql t (.t (.int k a)) (.t (.int k b)) = some (.t (.bool (a == b))) := by simp [binPV, arith]
@[go_sem] theorem bin_neq : binPV P h .neq t (.t (.int k a)) (.t (.int k b)) = some (.t (.bool (a != b))) := by simp [binPV, arith]
@[go_sem] theorem bin_lss : binPV P h .lss t (.t (.int k a)) (.t (.int k b)) = some (.t (.bool (decide (a < b)))) := by simp [binPV, arith]
@[go_sem] theorem bin_leq : binPV P h .leq t (.t (.int k a)) (.t (.int k b)) = some (.t (.bool (decide (a ≤ b)))) := by simp [binPV, arith]
@[go_sem] theorem bin_gtr : binPV P h .gtr t (.t (.int k a)) (.t (.int k b)) = some (.t (.bool (decide (a > b)))) := by simp [binPV, arith]
@[go_sem] theorem bin_geq : binPV P h .geq t (.t (.int k a)) (.t (.int k b)) = some (.t (.bool (decide (a ≥ b)))) := by simp [binPV, arith]
@[go_sem] theorem bin_shl (k' : IntKind) : binPV P h .shl t (.t (.int k a)) (.t (.int k' b)) = if b < 0 then none else some (.t (.int k (k.wrap (a * 2 ^ (min b.toNat k.bits))))) := by simp [binPV, shiftPV]
@[go_sem] theorem bin_shr (k' : IntKind) : binPV P h .shr t (.t (.int k a)) (.t (.int k' b)) = if b < 0 then none else some (.t (.int k (a.fdiv (2 ^ (min b.toNat k.bits))))) := by simp [binPV, shiftPV]
@[go_sem] theorem un_neg : unPV .neg (.t (.int k a)) = some (.t (.int k (k.wrap (0 - a)))) := nrfl rfl
@[go_sem] theorem un_not (x : Bool) : unPV .not (.t (.bool x)) = some (.t (.bool (!x))) := nrfl rfl
end
def bEq (isB : Bool) (x : Bool) : Option PV := if isB = true then some (.t (.bool x)) else none
@[go_sem] theorem bin_beql (t : TypeId) (a b : Bool) : binPV P h .eql t (.t (.bool a)) (.t (.bool b)) = bEq (isBoolB P t) (a == b) := by simp [binPV, bEq]
@[go_sem] theorem bin_bneq (t : TypeId) (a b : Bool) : binPV P h .neq t (.t (.bool a)) (.t (.bool b)) = bEq (isBoolB P t) (a != b) := by simp [binPV, bEq]
@[go_sem] theorem bEq_true (x : Bool) : bEq true x = some (.t (.bool x)) := nrfl rfl
@[go_sem] theorem bin_seql (t : TypeId) (a b : ByteArray) : binPV P h .eql t (.t (.str a)) (.t (.str b)) = some (.t (.bool (a.toList == b.toList))) := nrfl rfl
@[go_sem] theorem bin_sneq (t : TypeId) (a b : ByteArray) : binPV P h .neq t (.t (.str a)) (.t (.str b)) = some (.t (.bool (!(a.toList == b.toList)))) := nrfl rfl
@[go_sem] theorem bin_sadd (t : TypeId) (a b : ByteArray) : binPV P h .add t (.t (.str a)) (.t (.str b)) = if ((a.size + b.size : Nat) : Int) ≤ 9223372036854775807 then some (.t (.str (a ++ b))) else none := nrfl rfl
def nilX (e : Option TypeId) (b : Option Bool) : Option PV := match e, b with | some _, some b => some (.t (.bool b)) | _, _ => none
@[go_sem] theorem nilX_some (e : TypeId) (b : Bool) : nilX (some e) (some b) = some (.t (.bool b)) := nrfl rfl
@[go_sem] theorem bin_nileq (t : TypeId) (nn : Bool) (l : List Tr) : binPV P h .eql t (.t (.sl nn l)) (.t (.sl false [])) = nilX (elemB P t) (some (!nn)) := by
  simp only [binPV, isNilPV]; cases elemB P t <;> rfl
@[go_sem] theorem bin_nilne (t : TypeId) (nn : Bool) (l : List Tr) : binPV P h .neq t (.t (.sl nn l)) (.t (.sl false [])) = nilX (elemB P t) (some nn) := by
  simp only [binPV, isNilPV]; cases elemB P t <;> simp [nilX]
def convX (a b : Option IntKind) (n : Int) : Option PV := match a, b with | some _, some k => some (.t (.int k (k.wrap n))) | _, _ => none
@[go_sem] theorem conv_x (dst src : TypeId) (k : IntKind) (n : Int) : convPV P dst src (.t (.int k n)) = convX (intB P src) (intB P dst) n := by
  unfold convPV convX; cases intB P src <;> cases intB P dst <;> rfl
@[go_sem] theorem convX_some (a b : IntKind) (n : Int) : convX (some a) (some b) n = some (.t (.int b (b.wrap n))) := nrfl rfl
def ixS (is : Bool) (x : Option UInt8) (i : Int) : Option PV := if is = true ∧ 0 ≤ i then (match x with | some b => some (.t (.int .u8 b.toNat)) | none => none) else none
@[go_sem] theorem indexPV_x (t : TypeId) (b : ByteArray) (k : IntKind) (i : Int) : indexPV P t (.t (.str b)) (.t (.int k i)) = ixS (isStrB P t) b[i.toNat]? i := nrfl rfl

/-! variables and rows -/
def newVarX (ag : Option Bool) (n : Nat) (m : Bool) (d : Tmp) (t : TypeId) (cs : List PV) (h : Hp) : Option (PV × Hp) := match ag with
  | some ag => if cs.length = n ∧ 0 < n ∧ (ag = true ∨ n = 1) ∧ cs.all PV.one = true then
      if m then some (.ad (hnext h d) 1 0, hnew h d ⟨cs, n, 1, t, ag, true⟩)
      else match trees cs with | some ts => some (.ro ts, h) | none => none
    else none
  | none => none
@[go_sem] theorem newVarPV_x (d : Tmp) (t : TypeId) (cs : List PV) : newVarPV P mu (some d) t cs h = newVarX (aggB P t) (P.cellsOf t) (mu d) d t cs h := by
  unfold newVarPV newVarX; cases aggB P t <;> rfl
def roX (ts : Option (List Tr)) (h : Hp) : Option (PV × Hp) := match ts with | some ts => some (.ro ts, h) | none => none
@[go_sem] theorem roX_some (ts : List Tr) : roX (some ts) h = some (.ro ts, h) := nrfl rfl
@[go_sem] theorem newVarX_f (ag : Bool) (n : Nat) (d : Tmp) (t : TypeId) (cs : List PV) : newVarX (some ag) n false d t cs h = if cs.length = n ∧ 0 < n ∧ (ag = true ∨ n = 1) ∧ cs.all PV.one = true then roX (trees cs) h else none := by
  simp only [newVarX, roX, Bool.false_eq_true, if_false]
@[go_sem] theorem newVarX_t (ag : Bool) (n : Nat) (d : Tmp) (t : TypeId) (cs : List PV) : newVarX (some ag) n true d t cs h = if cs.length = n ∧ 0 < n ∧ (ag = true ∨ n = 1) ∧ cs.all PV.one = true then some (.ad (hnext h d) 1 0, hnew h d ⟨cs, n, 1, t, ag, true⟩) else none := by
  simp only [newVarX, if_true]
def newRowX (ag : Option Bool) (n : Nat) (m : Bool) (d : Tmp) (e : TypeId) (len : Nat) (cs : List PV) (h : Hp) : Option (PV × Hp) := match ag with
  | some ag => if ag = false ∧ n ≠ 1 then none else
    if m then some (.rf (hnext h d) len, hnew h d ⟨cs, n, len, e, ag, true⟩)
    else match trees cs with | some ts => some (.t (.sl true (elems ag n len ts)), h) | none => none
  | none => none
@[go_sem] theorem newRowPV_x (d : Tmp) (e : TypeId) (len : Nat) (cs : List PV) : newRowPV P mu (some d) e len cs h = newRowX (aggB P e) (P.cellsOf e) (mu d) d e len cs h := by
  unfold newRowPV newRowX; cases aggB P e <;> rfl
def slX (ag : Bool) (n len : Nat) (ts : Option (List Tr)) (h : Hp) : Option (PV × Hp) := match ts with | some ts => some (.t (.sl true (elems ag n len ts)), h) | none => none
@[go_sem] theorem slX_some (ag : Bool) (n len : Nat) (ts : List Tr) : slX ag n len (some ts) h = some (.t (.sl true (elems ag n len ts)), h) := nrfl rfl
@[go_sem] theorem newRowX_f (ag : Bool) (n : Nat) (d : Tmp) (e : TypeId) (len : Nat) (cs : List PV) : newRowX (some ag) n false d e len cs h = if ag = false ∧ n ≠ 1 then none else slX ag n len (trees cs) h := by
  simp only [newRowX, slX, Bool.false_eq_true, if_false]
@[go_sem] theorem newRowX_t (ag : Bool) (n : Nat) (d : Tmp) (e : TypeId) (len : Nat) (cs : List PV) : newRowX (some ag) n true d e len cs h = if ag = false ∧ n ≠ 1 then none else some (.rf (hnext h d) len, hnew h d ⟨cs, n, len, e, ag, true⟩) := by
  simp only [newRowX, if_true]
@[go_sem] theorem elems_f (n len : Nat) (ts : List Tr) : elems false n len ts = ts := nrfl rfl
@[go_sem] theorem elems_t (n len : Nat) (ts : List Tr) : elems true n len ts = chunk n len ts := nrfl rfl
@[go_sem] theorem chunk_zero (n : Nat) (ts : List Tr) : chunk n 0 ts = [] := nrfl rfl
@[go_sem] theorem chunk_succ (n len : Nat) (ts : List Tr) : chunk n (len + 1) ts = .agg (ts.take n) :: chunk n len (ts.drop n) := nrfl rfl
@[go_sem] theorem zrow_zero (z : List Tr) : zrow z 0 = [] := nrfl rfl
@[go_sem] theorem zrow_succ (z : List Tr) (n : Nat) : zrow z (n + 1) = z ++ zrow z n := nrfl rfl

def fpX (q : Option (Nat × Nat)) (place : Nat → Option (Nat × Nat)) (cells : List PV) (v : PV) (rest : List (Nat × PV)) : Option (List PV) := match q with
  | some (off, size) => if v.cells.length = size ∧ off + v.cells.length ≤ cells.length ∧ v.cells.all PV.one = true then fillPV place (splice cells off v.cells) rest else none
  | none => none
@[go_sem] theorem fillPV_nil (place : Nat → Option (Nat × Nat)) (cells : List PV) : fillPV place cells [] = some cells := nrfl rfl
@[go_sem] theorem fillPV_cons (place : Nat → Option (Nat × Nat)) (cells : List PV) (i : Nat) (v : PV) (rest : List (Nat × PV)) : fillPV place cells ((i, v) :: rest) = fpX (place i) place cells v rest := nrfl rfl
@[go_sem] theorem fpX_some (off size : Nat) (place : Nat → Option (Nat × Nat)) (cells : List PV) (v : PV) (rest : List (Nat × PV)) : fpX (some (off, size)) place cells v rest = if v.cells.length = size ∧ off + v.cells.length ≤ cells.length ∧ v.cells.all PV.one = true then fillPV place (splice cells off v.cells) rest else none := nrfl rfl
def buildX (pl : Option (List (Nat × Nat))) (z : Option (List Tr)) (parts : List (Nat × PV)) : Option PV := match pl, z with
  | some pl, some z => (fillPV (fun i => pl[i]?) (z.map .t) parts).map mkAgg
  | _, _ => none
@[go_sem] theorem buildPV_x (t : TypeId) (parts : List (Nat × PV)) : buildPV P t parts = buildX (placesB P t) (zeroB P t) parts := by
  unfold buildPV buildX
  cases placesB P t with
  | none => rfl
  | some pl =>
    cases zeroB P t with
    | none => rfl
    | some z => simp only; cases fillPV (fun i => pl[i]?) (z.map .t) parts <;> rfl
@[go_sem] theorem buildX_some (pl : List (Nat × Nat)) (z : List Tr) (parts : List (Nat × PV)) : buildX (some pl) (some z) parts = (fillPV (fun i => pl[i]?) (z.map .t) parts).map mkAgg := nrfl rfl
def bsX (e : TypeId) (n : Nat) (len : Nat) (P : Program) (mu : Nat → Bool) (d : Option Tmp) (cs : Option (List PV)) (h : Hp) : Option (PV × Hp) := match cs with
  | some cs => if cs.all PV.one = true then newRowPV P mu d e len cs h else none
  | none => none
@[go_sem] theorem bsX_some (e : TypeId) (n len : Nat) (d : Option Tmp) (cs : List PV) : bsX e n len P mu d (some cs) h = if cs.all PV.one = true then newRowPV P mu d e len cs h else none := nrfl rfl
def buildSliceX (e : Option TypeId) (P : Program) (mu : Nat → Bool) (d : Option Tmp) (len : Nat) (parts : List (Nat × PV)) (h : Hp) : Option (PV × Hp) := match e with
  | some e => (match zeroB P e with
    | some z => if z.length = P.cellsOf e ∧ 0 < P.cellsOf e ∧ len * P.cellsOf e ≤ 16777216 then bsX e (P.cellsOf e) len P mu d (fillPV (fun i => some (i * P.cellsOf e, P.cellsOf e)) ((zrow z len).map .t) parts) h else none
    | none => none)
  | none => none
def bsZ (z : Option (List Tr)) (n : Nat) (e : TypeId) (P : Program) (mu : Nat → Bool) (d : Option Tmp) (len : Nat) (parts : List (Nat × PV)) (h : Hp) : Option (PV × Hp) := match z with
  | some z => if z.length = n ∧ 0 < n ∧ len * n ≤ 16777216 then bsX e n len P mu d (fillPV (fun i => some (i * n, n)) ((zrow z len).map .t) parts) h else none
  | none => none
@[go_sem] theorem buildSlicePV_x (t : TypeId) (d : Option Tmp) (len : Nat) (parts : List (Nat × PV)) : buildSlicePV P mu d t len parts h = buildSliceX (elemB P t) P mu d len parts h := by
  unfold buildSlicePV buildSliceX
  cases elemB P t with
  | none => rfl
  | some e =>
    simp only
    cases zeroB P e with
    | none => rfl
    | some z =>
      simp only
      split
      · cases fillPV (fun i => some (i * P.cellsOf e, P.cellsOf e)) ((zrow z len).map .t) parts <;> rfl
      · rfl
@[go_sem] theorem buildSliceX_some (e : TypeId) (d : Option Tmp) (len : Nat) (parts : List (Nat × PV)) : buildSliceX (some e) P mu d len parts h = bsZ (zeroB P e) (P.cellsOf e) e P mu d len parts h := nrfl rfl
@[go_sem] theorem bsZ_some (z : List Tr) (n : Nat) (e : TypeId) (d : Option Tmp) (len : Nat) (parts : List (Nat × PV)) : bsZ (some z) n e P mu d len parts h = if z.length = n ∧ 0 < n ∧ len * n ≤ 16777216 then bsX e n len P mu d (fillPV (fun i => some (i * n, n)) ((zrow z len).map .t) parts) h else none := nrfl rfl
def msX (e : Option TypeId) (P : Program) (mu : Nat → Bool) (d : Option Tmp) (n m : Int) (h : Hp) : Option (PV × Hp) := match e with
  | some e => (match zeroB P e with
    | some z => if z.length = P.cellsOf e ∧ 0 < P.cellsOf e ∧ m = n ∧ 0 ≤ n ∧ n * P.bytesOf e ≤ 281474976710656 ∧ n ≤ 4611686018427387904 then newRowPV P mu d e n.toNat ((zrow z n.toNat).map .t) h else none
    | none => none)
  | none => none
def msZ (z : Option (List Tr)) (c by_ : Nat) (e : TypeId) (P : Program) (mu : Nat → Bool) (d : Option Tmp) (n m : Int) (h : Hp) : Option (PV × Hp) := match z with
  | some z => if z.length = c ∧ 0 < c ∧ m = n ∧ 0 ≤ n ∧ n * by_ ≤ 281474976710656 ∧ n ≤ 4611686018427387904 then newRowPV P mu d e n.toNat ((zrow z n.toNat).map .t) h else none
  | none => none
@[go_sem] theorem makeSlicePV_x (t : TypeId) (d : Option Tmp) (n m : Int) : makeSlicePV P mu d t (.t (.int .i64 n)) (.t (.int .i64 m)) h = msX (elemB P t) P mu d n m h := by
  unfold makeSlicePV msX; cases elemB P t <;> rfl
@[go_sem] theorem msX_some (e : TypeId) (d : Option Tmp) (n m : Int) : msX (some e) P mu d n m h = msZ (zeroB P e) (P.cellsOf e) (P.bytesOf e) e P mu d n m h := nrfl rfl
@[go_sem] theorem msZ_some (z : List Tr) (c by_ : Nat) (e : TypeId) (d : Option Tmp) (n m : Int) : msZ (some z) c by_ e P mu d n m h = if z.length = c ∧ 0 < c ∧ m = n ∧ 0 ≤ n ∧ n * by_ ≤ 281474976710656 ∧ n ≤ 4611686018427387904 then newRowPV P mu d e n.toNat ((zrow z n.toNat).map .t) h else none := nrfl rfl

/-! builtins -/
def lenX (is el : Bool) (h : Hp) (x : PV) : Option PV := if is = true then (match x with | .t (.str b) => some (.t (.int .i64 b.size)) | _ => none) else if el = true then lenPV h x else none
@[go_sem] theorem lenX_sl (nn : Bool) (l : List Tr) : lenX false true h (.t (.sl nn l)) = some (.t (.int .i64 l.length)) := nrfl rfl
@[go_sem] theorem lenX_str (el : Bool) (b : ByteArray) : lenX true el h (.t (.str b)) = some (.t (.int .i64 b.size)) := nrfl rfl
@[go_sem] theorem lenX_rf (id : Id) (n : Nat) : lenX false true h (.rf id n) = if valid h id n = true then some (.t (.int .i64 n)) else none := nrfl rfl
variable {dr : Bool} {all os : List Oper} {d : Option Tmp} {ty : TypeId} {ps : String} {af : Array Edge}
theorem len_eval (x : Operand) (t : TypeId) : evalOp P mu ⟨d, .call ⟨.builtin .len, #[x], #[t]⟩, ty, ps, af, none⟩ s = still (lenX (isStrB P t) (elemB P t).isSome s.hp (ev s.sl x)) s.hp := by
  simp only [evalOp, lenX]
  split
  · generalize ev s.sl x = u
    cases u with
    | t y => cases y <;> rfl
    | _ => rfl
  · split <;> rfl
@[go_sem ↓] theorem kont_len (x : Operand) (t : TypeId) : kont P mu F (.ops false all (⟨d, .call ⟨.builtin .len, #[x], #[t]⟩, ty, ps, af, none⟩ :: os) :: r) .normal s = stK P mu F (lenX (isStrB P t) (elemB P t).isSome s.hp (ev s.sl x)) d (.ops false all os :: r) s := by
  rw [kont_opF rfl rfl, len_eval]; exact still_hpK _
@[go_sem ↓] theorem kont_lenD (x : Operand) (t : TypeId) : kont P mu F (.ops true all (⟨d, .call ⟨.builtin .len, #[x], #[t]⟩, ty, ps, af, none⟩ :: os) :: r) .normal s = drK (outer mu x || !(ev s.sl x).isRef) (stK P mu F (lenX (isStrB P t) (elemB P t).isSome s.hp (ev s.sl x)) d (.ops true all os :: r) s) := by
  rw [kont_drawn rfl rfl, len_eval]; exact congrArg _ (still_hpK _)
@[go_sem ↓] theorem kont_append (x y : Operand) (t : TypeId) : kont P mu F (.ops dr all (⟨d, .call ⟨.builtin .append, #[x, y], #[t, t]⟩, ty, ps, af, none⟩ :: os) :: r) .normal s = hpK P mu F (appendPV P mu d t (ev s.sl x) (ev s.sl y) s.hp) d (.ops dr all os :: r) s := by
  rw [kont_opB rfl rfl rfl]; simp only [evalOp, if_true]
@[go_sem ↓] theorem kont_min (x y : Operand) (ts : Array TypeId) : kont P mu F (.ops dr all (⟨d, .call ⟨.builtin .min, #[x, y], ts⟩, ty, ps, af, none⟩ :: os) :: r) .normal s = stK P mu F (minPV (ev s.sl x) (ev s.sl y)) d (.ops dr all os :: r) s := by
  rw [kont_opB rfl rfl rfl]; exact still_hpK _
@[go_sem ↓] theorem kont_max (x y : Operand) (ts : Array TypeId) : kont P mu F (.ops dr all (⟨d, .call ⟨.builtin .max, #[x, y], ts⟩, ty, ps, af, none⟩ :: os) :: r) .normal s = stK P mu F (maxPV (ev s.sl x) (ev s.sl y)) d (.ops dr all os :: r) s := by
  rw [kont_opB rfl rfl rfl]; exact still_hpK _
@[go_sem] theorem minPV_int (k : IntKind) (x y : Int) : minPV (.t (.int k x)) (.t (.int k y)) = some (.t (.int k (if y < x then y else x))) := by simp [minPV]
@[go_sem] theorem maxPV_int (k : IntKind) (x y : Int) : maxPV (.t (.int k x)) (.t (.int k y)) = some (.t (.int k (if x < y then y else x))) := by simp [maxPV]

/-! calls -/
@[go_sem] theorem calleeOf_func (sl : Sl) (g : FuncId) (args : List Operand) : calleeOf sl (.func g) args = some (g, evs sl args) := by simp [calleeOf, ev]
def calleeX (f : PV) (vs : List PV) : Option (FuncId × List PV) := match f with
  | .t (.fn g caps) => some (g, vs ++ caps.map .t)
  | .fn g caps => some (g, vs ++ caps)
  | _ => none
@[go_sem] theorem calleeOf_tmp (sl : Sl) (t : Tmp) (args : List Operand) : calleeOf sl (.tmp t) args = calleeX (sl t) (evs sl args) := nrfl rfl
@[go_sem] theorem calleeX_t (g : FuncId) (caps : List Tr) (vs : List PV) : calleeX (.t (.fn g caps)) vs = some (g, vs ++ caps.map .t) := nrfl rfl
@[go_sem] theorem calleeX_fn (g : FuncId) (caps : List PV) (vs : List PV) : calleeX (.fn g caps) vs = some (g, vs ++ caps) := nrfl rfl

theorem reach_t (k : Nat) (x : Tr) : reach h k (.t x) = [] := by cases k <;> rfl
theorem toTr_t (k : Nat) (x : Tr) : toTr h k (.t x) = some x := by cases k <;> rfl
theorem flat_reach (ts : List Tr) (k : Nat) : (ts.map PV.t).flatMap (reach h k) = [] := by
  induction ts with
  | nil => rfl
  | cons a l ih => simp [reach_t, ih]

/-- A CALL whose arguments are trees. -/
theorem clK_mk {g : FuncId} {ts : List Tr} {x : Tr} {args : List PV} (hd : DCall P g ts x) (ha : args = ts.map .t) (hk : kont P mu F r .normal (St.put s d (.t x))) : clK P mu F dr d (some (g, args)) r s := by
  subst ha
  simp only [clK, callW]
  split
  · exact .inl ⟨ts, x, trees_map ts, hd, hk⟩
  · refine .inl ⟨ts, x, mapO_t ts, hd, ?_⟩
    rw [flat_reach]
    simp only [frz, List.foldl_nil, ite_self]
    exact hk
/-- A CALL whose result is scalar. -/
theorem clK_sc {g : FuncId} {ts : List Tr} {x : Tr} {args : List PV} (hd : DCall P g ts x) (ha : mapO (toTr s.hp dep) args = some ts) (hs : x.scalar = true) (hk : kont P mu F r .normal (St.put s d (.t x))) : clK P mu F false d (some (g, args)) r s := by
  simp only [clK, callW, Bool.false_eq_true, if_false]
  exact .inl ⟨ts, x, ha, hd, by rw [if_pos hs]; exact hk⟩
/-- A CALL whose arguments lead to objects of one's own. -/
theorem clK_fz {g : FuncId} {ts : List Tr} {x : Tr} {args : List PV} (hd : DCall P g ts x) (ha : mapO (toTr s.hp dep) args = some ts) (hs : x.scalar = false) (hk : kont P mu F r .normal (St.put { s with hp := frz s.hp (args.flatMap (reach s.hp dep)) } d (.t x))) : clK P mu F false d (some (g, args)) r s := by
  simp only [clK, callW, Bool.false_eq_true, if_false]
  exact .inl ⟨ts, x, ha, hd, by rw [hs]; simpa using hk⟩
/-- ... in a region that draws its order -/
theorem clK_fx {g : FuncId} {ts : List Tr} {x : Tr} {args : List PV} (hd : DCall P g ts x) (ha : mapO (toTr s.hp dep) args = some ts) (hf : fatB mu d = true) (hk : kont P mu F r .normal (St.put { s with hp := frz s.hp (args.flatMap (reach s.hp dep)) } d (.t x))) : clK P mu F true d (some (g, args)) r s := by
  simp only [clK, callW, if_true]
  exact .inr ⟨hf, _, _, .inr ⟨ts, x, ha, hd, rfl, rfl⟩, hk⟩
/-- A CALL that shares the heap. -/
theorem clK_ic {g : FuncId} {args : List PV} {Q : PV → Hp → Prop} (hd : ICall P g args s.hp Q) (hk : ∀ v h', Q v h' → kont P mu F r .normal (St.put { s with hp := h' } d v)) : clK P mu F false d (some (g, args)) r s := by
  simp only [clK, callW, Bool.false_eq_true, if_false]
  exact .inr (hd.mono hk)
/-- ... whose outcome is one -/
theorem clK_ix {g : FuncId} {args : List PV} {v : PV} {h' : Hp} (hd : ICall P g args s.hp fun v' h'' => v' = v ∧ h'' = h') (hf : fatB mu d = true) (hk : kont P mu F r .normal (St.put { s with hp := h' } d v)) : clK P mu F dr d (some (g, args)) r s := by
  simp only [clK, callW]
  split
  · exact .inr ⟨hf, v, h', .inl hd, hk⟩
  · exact .inr (hd.mono fun v' h'' ⟨e1, e2⟩ => by rw [e1, e2]; exact hk)

/-! the heap -/
@[go_sem] theorem hget_new (s' : Nat) (o : Obj) : hget (hnew h s' o) (hnext h s') = some o := by rw [hget_hnew, if_pos rfl]
theorem hget_new_ne {s' : Nat} {o : Obj} {id : Id} (hn : id.1 ≠ s') : hget (hnew h s' o) id = hget h id := by
  rw [hget_hnew, if_neg]
  intro e; exact hn (by rw [e]; rfl)
theorem hset_new (s' : Nat) (o o' : Obj) : hset (hnew h s' o) (hnext h s') o' = hnew h s' o' := by
  funext u
  unfold hset hnew hnext upd
  by_cases hu : u = s'
  · subst hu; simp
  · simp [hu]
attribute [go_sem] hset_new
@[go_sem] theorem hget_new_next {h' : Hp} {s1 s2 : Nat} (o : Obj) (hs : (s2 == s1) = false) : hget (hnew h s1 o) (hnext h' s2) = hget h (hnext h' s2) := by
  refine hget_new_ne ?_
  simpa [hnext] using hs
@[go_sem] theorem hnext_fst (s' : Nat) : (hnext h s').1 = s' := nrfl rfl

/-! the function's end -/
@[go_sem] theorem endK_ret (fn : Func) (x : Tr) : endK P fn x .ret s = (resTr P s fn.results.toList = some x) := nrfl rfl
@[go_sem] theorem endK_normal (fn : Func) (x : Tr) : endK P fn x .normal s = (resTr P s fn.results.toList = some x) := nrfl rfl
def tupX (l : Option (List Tr)) : Option Tr := match l with | some ts => some (.tup ts) | none => none
@[go_sem] theorem tupX_some (l : List Tr) : tupX (some l) = some (.tup l) := nrfl rfl
theorem resTr_eq (l : List ResultVar) : resTr P s l = (match mapO (resOne P s) l with | some [x] => some x | some ts => some (.tup ts) | none => none) := rfl
@[go_sem] theorem resTr_one (a : ResultVar) : resTr P s [a] = resOne P s a := by
  rw [resTr_eq]; simp only [mapO]; cases resOne P s a <;> rfl
@[go_sem] theorem resTr_more (a b : ResultVar) (l : List ResultVar) : resTr P s (a :: b :: l) = tupX (mapO (resOne P s) (a :: b :: l)) := by
  rw [resTr_eq]; simp only [mapO]; cases resOne P s a <;> cases resOne P s b <;> cases mapO (resOne P s) l <;> rfl
@[go_sem] theorem resTr_nil : resTr P s [] = some (.tup []) := nrfl rfl
def consX (a : Option Tr) (l : Option (List Tr)) : Option (List Tr) := match a, l with | some b, some bs => some (b :: bs) | _, _ => none
@[go_sem] theorem consX_some (a : Tr) (l : List Tr) : consX (some a) (some l) = some (a :: l) := nrfl rfl
@[go_sem] theorem mapO_res_nil : mapO (resOne P s) [] = some [] := nrfl rfl
@[go_sem] theorem mapO_res_cons (a : ResultVar) (l : List ResultVar) : mapO (resOne P s) (a :: l) = consX (resOne P s a) (mapO (resOne P s) l) := by
  simp only [mapO, consX]; cases resOne P s a <;> cases mapO (resOne P s) l <;> rfl
@[go_sem] theorem mapO_tr_nil (k : Nat) : mapO (toTr h k) [] = some [] := nrfl rfl
@[go_sem] theorem mapO_tr_cons (k : Nat) (a : PV) (l : List PV) : mapO (toTr h k) (a :: l) = consX (toTr h k a) (mapO (toTr h k) l) := by
  simp only [mapO, consX]; cases toTr h k a <;> cases mapO (toTr h k) l <;> rfl
@[go_sem] theorem resOne_tmp (t : Tmp) : resOne P s (.tmp t) = toTr s.hp dep (s.sl t) := nrfl rfl
def toTrO (h : Hp) (x : Option PV) : Option Tr := match x with | some p => toTr h dep p | none => none
@[go_sem] theorem toTrO_some (x : PV) : toTrO h (some x) = toTr h dep x := nrfl rfl
@[go_sem] theorem resOne_cell (a : Tmp) (t : TypeId) : resOne P s (.cell a t) = toTrO s.hp (loadPV P t (s.sl a) s.hp) := nrfl rfl
attribute [go_sem] toTr_t reach_t
theorem wrap_i64 {n : Int} (h1 : -9223372036854775808 ≤ n) (h2 : n ≤ 9223372036854775807) : IntKind.i64.wrap n = n := by
  have e1 : (2 : Int) ^ IntKind.i64.bits = 18446744073709551616 := by decide
  have e2 : (2 : Int) ^ (IntKind.i64.bits - 1) = 9223372036854775808 := by decide
  unfold IntKind.wrap
  simp only [e1, e2]
  by_cases hn : n % 18446744073709551616 ≥ 9223372036854775808
  · rw [if_pos (by simp [IntKind.signed, hn])]; omega
  · rw [if_neg (by simp [IntKind.signed, hn])]; omega
end
end Go.Vm
