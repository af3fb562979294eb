import Derived.Test.YtajgclnahfmfmaaGreatMS2
set_option linter.unusedSimpArgs false
set_option linter.unusedVariables false
section
namespace Go.Vm
open Go
section
variable {P : Program} {mu : Nat → Bool} {F : Ex → St → Prop} {r : List Item} {s : St} {h : Hp}
attribute [go_sem] Option.map_some Option.map_none List.map_cons List.map_nil List.length_map List.length_cons List.length_nil List.take_succ_cons List.take_zero List.drop_succ_cons List.drop_zero List.take_nil List.drop_nil List.getElem?_cons_zero List.getElem?_cons_succ List.getElem?_nil List.getElem?_map List.all_cons List.all_nil List.cons_append List.nil_append List.flatMap_cons List.flatMap_nil Bool.and_true Bool.true_and Bool.and_false Bool.false_and Bool.or_false Bool.false_or Bool.or_true Bool.true_or Bool.not_true Bool.not_false and_true true_and and_false false_and if_true if_false ite_true ite_false reduceIte Int.toNat_natCast Int.natCast_nonneg reduceCtorEq Bool.false_eq_true Bool.true_eq_false true_or or_true false_or or_false not_true_eq_false not_false_eq_true ne_eq Option.isSome_some decide_true decide_false List.toList_toArray
@[go_sem] theorem upd_app {α : Type} (f : Nat → α) (t u : Nat) (v : α) : upd f t v u = bif u == t then v else f u := by
  unfold upd
  by_cases hu : u = t
  · subst hu; simp
  · rw [beq_false_of_ne hu, if_neg hu]; rfl
@[go_sem] theorem cond_t {α : Type} (a b : α) : (bif true then a else b) = a := nrfl rfl
@[go_sem] theorem cond_f {α : Type} (a b : α) : (bif false then a else b) = b := nrfl rfl
@[go_sem] theorem put_some (d : Tmp) (v : PV) : St.put s (some d) v = ⟨upd s.sl d v, s.hp⟩ := nrfl rfl
@[go_sem] theorem put_none (v : PV) : St.put s none v = s := nrfl rfl
@[go_sem] theorem ev_tmp (sl : Sl) (t : Tmp) : ev sl (.tmp t) = sl t := nrfl rfl
@[go_sem] theorem ev_func (sl : Sl) (f : FuncId) : ev sl (.func f) = .t (.fn f []) := nrfl rfl
@[go_sem] theorem ev_int (sl : Sl) (k : IntKind) (n : Int) : ev sl (.const (.int k n)) = .t (.int k n) := nrfl rfl
@[go_sem] theorem ev_bool (sl : Sl) (b : Bool) : ev sl (.const (.bool b)) = .t (.bool b) := nrfl rfl
@[go_sem] theorem ev_nil (sl : Sl) : ev sl (.const (.slice none 0 0)) = .t (.sl false []) := nrfl rfl
@[go_sem] theorem evs_nil (sl : Sl) : evs sl [] = [] := nrfl rfl
@[go_sem] theorem evs_cons (sl : Sl) (x : Operand) (l : List Operand) : evs sl (x :: l) = ev sl x :: evs sl l := nrfl rfl
@[go_sem] theorem boolOf_bool (b : Bool) : boolOf (.t (.bool b)) = some b := nrfl rfl
@[go_sem] theorem initSl_app (args : List Tr) (t : Nat) : initSl args t = (match args[t]? with | some x => x.pv | none => .undef) := nrfl rfl
@[go_sem] theorem initSt_sl (args : List Tr) : (initSt args).sl = initSl args := nrfl rfl
@[go_sem] theorem initSt_hp (args : List Tr) : (initSt args).hp = fun _ => [] := nrfl rfl
@[go_sem] theorem pv_int (k : IntKind) (n : Int) : (Tr.int k n).pv = .t (.int k n) := nrfl rfl
@[go_sem] theorem pv_bool (b : Bool) : (Tr.bool b).pv = .t (.bool b) := nrfl rfl
@[go_sem] theorem pv_agg (l : List Tr) : (Tr.agg l).pv = .t (.agg l) := nrfl rfl
@[go_sem] theorem pv_sl (nn : Bool) (l : List Tr) : (Tr.sl nn l).pv = .t (.sl nn l) := nrfl rfl
@[go_sem] theorem pv_fn (f : FuncId) (l : List Tr) : (Tr.fn f l).pv = .t (.fn f l) := nrfl rfl
@[go_sem] theorem pv_ptr (cs : List Tr) : (Tr.ptr cs).pv = .ro cs := nrfl rfl
@[go_sem] theorem lift_ro (cs : List Tr) : (PV.ro cs).lift = .t (.ptr cs) := nrfl rfl
def guardV (p : PV) : Option (Option Bool) := match p with | .t (.bool b) => some (some b) | .skip => some none | _ => none
@[go_sem] theorem guardV_bool (b : Bool) : guardV (.t (.bool b)) = some (some b) := nrfl rfl
@[go_sem] theorem guardV_skip : guardV .skip = some none := nrfl rfl
@[go_sem] theorem guardPV_succ (o : Oper) (l : List Oper) (sl : Sl) (j : Nat) : guardPV (o :: l) sl (j + 1) = guardPV l sl j := nrfl rfl
@[go_sem] theorem guardPV_zero (d : Tmp) (op : Op) (ty : TypeId) (ps : String) (af : Array Edge) (g : Option (Nat × Bool)) (l : List Oper) (sl : Sl) : guardPV (⟨some d, op, ty, ps, af, g⟩ :: l) sl 0 = guardV (sl d) := nrfl rfl
@[go_sem] theorem homedX_tmp (sl : Sl) (d : Tmp) : homedX mu (.tmp d) sl = bif mu (1000000 + d) then (sl d).at_ d else true := by
  unfold homedX homeX
  cases h : mu (1000000 + d) <;> simp [h]
@[go_sem] theorem at_ad (id : Id) (n off d : Nat) : (PV.ad id n off).at_ d = (id.1 == d) := nrfl rfl
@[go_sem] theorem cells_int (k : IntKind) (n : Int) : (PV.t (.int k n)).cells = [.t (.int k n)] := nrfl rfl
@[go_sem] theorem cells_bool (b : Bool) : (PV.t (.bool b)).cells = [.t (.bool b)] := nrfl rfl
@[go_sem] theorem cells_sl (nn : Bool) (l : List Tr) : (PV.t (.sl nn l)).cells = [.t (.sl nn l)] := nrfl rfl
@[go_sem] theorem cells_agg (l : List Tr) : (PV.t (.agg l)).cells = l.map .t := nrfl rfl
@[go_sem] theorem cells_rf (id : Id) (n : Nat) : (PV.rf id n).cells = [.rf id n] := nrfl rfl
@[go_sem] theorem tcells_int (k : IntKind) (n : Int) : (Tr.int k n).cells = [.int k n] := nrfl rfl
@[go_sem] theorem tcells_agg (l : List Tr) : (Tr.agg l).cells = l := nrfl rfl
@[go_sem] theorem one_int (k : IntKind) (n : Int) : (PV.t (.int k n)).one = true := nrfl rfl
@[go_sem] theorem one_bool (b : Bool) : (PV.t (.bool b)).one = true := nrfl rfl
@[go_sem] theorem one_sl (nn : Bool) (l : List Tr) : (PV.t (.sl nn l)).one = true := nrfl rfl
@[go_sem] theorem one_rf (id : Id) (n : Nat) : (PV.rf id n).one = true := nrfl rfl
@[go_sem] theorem trees_nil : trees [] = some [] := nrfl rfl
@[go_sem] theorem trees_cons (x : Tr) (l : List PV) : trees (.t x :: l) = (trees l).map (x :: ·) := by simp only [trees]; cases trees l <;> rfl
@[go_sem] theorem trees_map (l : List Tr) : trees (l.map .t) = some l := by induction l with | nil => rfl | cons a l ih => simp [trees, ih]
@[go_sem] theorem mkAgg_tree {l : List PV} (hl : (trees l).isSome = true) : mkAgg l = .t (.agg ((trees l).getD [])) := by
  unfold mkAgg; cases h : trees l with
  | none => rw [h] at hl; cases hl
  | some ts => rfl
@[go_sem] theorem mkFn_tree {f : FuncId} {l : List PV} (hl : (trees (l.map PV.lift)).isSome = true) : mkFn f l = .t (.fn f ((trees (l.map PV.lift)).getD [])) := by
  unfold mkFn; cases h : trees (l.map PV.lift) with
  | none => rw [h] at hl; cases hl
  | some ts => rfl
attribute [go_sem] Option.getD_some
def aggX (x : Option (List Tr)) : Option Tr := match x with | some ts => some (.agg ts) | none => none
@[go_sem] theorem isRef_t (x : Tr) : (PV.t x).isRef = false := nrfl rfl
@[go_sem] theorem isRef_ro (x : List Tr) : (PV.ro x).isRef = false := nrfl rfl
@[go_sem] theorem isRef_rf (id : Id) (n : Nat) : (PV.rf id n).isRef = true := nrfl rfl
@[go_sem] theorem isRef_ad (id : Id) (n off : Nat) : (PV.ad id n off).isRef = true := nrfl rfl
@[go_sem] theorem outer_tmp (t : Tmp) : outer mu (.tmp t) = mu t := nrfl rfl
@[go_sem] theorem outer_const (v : Value) : outer mu (.const v) = false := nrfl rfl
theorem splice_def' (l : List PV) (off : Nat) (vs : List PV) : splice l off vs = l.take off ++ vs ++ l.drop (off + vs.length) := rfl
@[go_sem] theorem splice_lit (l : List PV) (n : Nat) (vs : List PV) : splice l (no_index (OfNat.ofNat n)) vs = l.take (OfNat.ofNat n) ++ vs ++ l.drop (OfNat.ofNat n + vs.length) := nrfl rfl
theorem set_splice {α : Type} (l : List α) (k : Nat) (a : α) (hk : k < l.length) : l.take k ++ [a] ++ l.drop (k + 1) = l.set k a := by
  induction l generalizing k with
  | nil => simp at hk
  | cons b l ih =>
    cases k with
    | zero => rfl
    | succ k => simp only [List.take_succ_cons, List.cons_append, List.drop_succ_cons, List.set_cons_succ]; rw [← ih k (by simpa using hk)]
attribute [go_sem] Nat.mul_one
@[go_sem] theorem zrow_ints (kd : IntKind) (n : Nat) : zrow [Tr.int kd 0] n = (List.replicate n (0 : Int)).map (Tr.int kd) := by
  induction n with
  | zero => rfl
  | succ n ih => simp only [zrow, ih, List.replicate_succ, List.map_cons, List.cons_append, List.nil_append]
def loadX (ag : Option Bool) (n : Nat) (p : PV) (h : Hp) : Option PV := match ag, p with
  | some true, .ro cs => if (cs.take n).length = n then some (.t (.agg (cs.take n))) else none
  | some false, .ro (c :: _) => some (.t c)
  | some true, .ad id m off => match hget h id with
    | some o => if o.len = m ∧ ((o.cs.drop off).take n).length = n then some (mkAgg ((o.cs.drop off).take n)) else none
    | none => none
  | some false, .ad id m off => match hget h id with
    | some o => if o.len = m then o.cs[off]? else none
    | none => none
  | _, _ => none
@[go_sem] theorem loadPV_x (t : TypeId) (p : PV) : loadPV P t p h = loadX (aggB P t) (P.cellsOf t) p h := nrfl rfl
@[go_sem] theorem loadX_ro_agg (n : Nat) (cs : List Tr) : loadX (some true) n (.ro cs) h = if (cs.take n).length = n then some (.t (.agg (cs.take n))) else none := nrfl rfl
@[go_sem] theorem loadX_ro (n : Nat) (c : Tr) (cs : List Tr) : loadX (some false) n (.ro (c :: cs)) h = some (.t c) := nrfl rfl
def ldO (o : Option Obj) (m off : Nat) : Option PV := match o with | some o => if o.len = m then o.cs[off]? else none | none => none
def ldA (o : Option Obj) (m off n : Nat) : Option PV := match o with | some o => if o.len = m ∧ ((o.cs.drop off).take n).length = n then some (mkAgg ((o.cs.drop off).take n)) else none | none => none
@[go_sem] theorem loadX_ad (n : Nat) (id : Id) (m off : Nat) : loadX (some false) n (.ad id m off) h = ldO (hget h id) m off := nrfl rfl
@[go_sem] theorem loadX_ad_agg (n : Nat) (id : Id) (m off : Nat) : loadX (some true) n (.ad id m off) h = ldA (hget h id) m off n := nrfl rfl
@[go_sem] theorem ldO_some (o : Obj) (m off : Nat) : ldO (some o) m off = if o.len = m then o.cs[off]? else none := nrfl rfl
@[go_sem] theorem ldA_some (o : Obj) (m off n : Nat) : ldA (some o) m off n = if o.len = m ∧ ((o.cs.drop off).take n).length = n then some (mkAgg ((o.cs.drop off).take n)) else none := nrfl rfl
def stX (o : Option Obj) (h : Hp) (id : Id) (m off : Nat) (ok : Bool) (n : Nat) (cs : List PV) : Option Hp := match o with
  | some o => if o.len = m ∧ o.live = true ∧ ok = true ∧ cs.length = n ∧ off + cs.length ≤ o.cs.length ∧ cs.all PV.one = true then some (hset h id { o with cs := splice o.cs off cs }) else none
  | none => none
@[go_sem] theorem storePV_x (t : TypeId) (id : Id) (m off : Nat) (v : PV) : storePV P t (.ad id m off) v h = stX (hget h id) h id m off (P.info? t).isSome (P.cellsOf t) v.cells := nrfl rfl
@[go_sem] theorem stX_some (o : Obj) (id : Id) (m off : Nat) (ok : Bool) (n : Nat) (cs : List PV) : stX (some o) h id m off ok n cs = if o.len = m ∧ o.live = true ∧ ok = true ∧ cs.length = n ∧ off + cs.length ≤ o.cs.length ∧ cs.all PV.one = true then some (hset h id { o with cs := splice o.cs off cs }) else none := nrfl rfl
def vldO (o : Option Obj) (n : Nat) : Bool := match o with | some o => o.len == n | none => false
@[go_sem] theorem valid_x (id : Id) (n : Nat) : valid h id n = vldO (hget h id) n := nrfl rfl
@[go_sem] theorem vldO_some (o : Obj) (n : Nat) : vldO (some o) n = (o.len == n) := nrfl rfl
def fieldAddrX (f : Option (Nat × TypeId)) (p : PV) (h : Hp) : Option PV := match f with
  | some (off, _) => (match p with
    | .ro cs => some (.ro (cs.drop off))
    | .ad id n o => if valid h id n then some (.ad id n (o + off)) else none
    | _ => none)
  | none => none
@[go_sem] theorem fieldAddrPV_x (t : TypeId) (i : Nat) (p : PV) : fieldAddrPV P t i p h = fieldAddrX (fieldB P t i) p h := nrfl rfl
@[go_sem] theorem fieldAddrX_ro (off : Nat) (ft : TypeId) (cs : List Tr) : fieldAddrX (some (off, ft)) (.ro cs) h = some (.ro (cs.drop off)) := nrfl rfl
@[go_sem] theorem fieldAddrX_ad (off : Nat) (ft : TypeId) (id : Id) (n o : Nat) : fieldAddrX (some (off, ft)) (.ad id n o) h = if valid h id n = true then some (.ad id n (o + off)) else none := nrfl rfl
def idxT (e : Option TypeId) (P : Program) (y : Option Tr) (i : Int) : Option PV := match e with
  | some e => if 0 ≤ i then (match y with | some y => if y.cells.length = P.cellsOf e ∧ 0 < P.cellsOf e then some (.ro y.cells) else none | none => none) else none
  | none => none
def idxO (e : Option TypeId) (P : Program) (o : Option Obj) (id : Id) (n : Nat) (i : Int) : Option PV := match e with
  | some e => (match o with | some o => if o.len = n ∧ o.esz = P.cellsOf e ∧ 0 ≤ i ∧ i.toNat < n then some (.ad id n (i.toNat * o.esz)) else none | none => none)
  | none => none
@[go_sem] theorem indexAddrPV_sl (t : TypeId) (nn : Bool) (l : List Tr) (k : IntKind) (i : Int) : indexAddrPV P t (.t (.sl nn l)) (.t (.int k i)) h = idxT (elemB P t) P l[i.toNat]? i := by
  unfold indexAddrPV idxT; cases elemB P t <;> rfl
@[go_sem] theorem indexAddrPV_rf (t : TypeId) (id : Id) (n : Nat) (k : IntKind) (i : Int) : indexAddrPV P t (.rf id n) (.t (.int k i)) h = idxO (elemB P t) P (hget h id) id n i := by
  unfold indexAddrPV idxO; cases elemB P t <;> rfl
@[go_sem] theorem idxT_some (e : TypeId) (y : Tr) (i : Int) : idxT (some e) P (some y) i = if 0 ≤ i ∧ y.cells.length = P.cellsOf e ∧ 0 < P.cellsOf e then some (.ro y.cells) else none := by
  unfold idxT; by_cases h1 : 0 ≤ i <;> simp [h1]
@[go_sem] theorem idxO_some (e : TypeId) (o : Obj) (id : Id) (n : Nat) (i : Int) : idxO (some e) P (some o) id n i = if o.len = n ∧ o.esz = P.cellsOf e ∧ 0 ≤ i ∧ i.toNat < n then some (.ad id n (i.toNat * o.esz)) else none := nrfl rfl
def fieldX (f : Option (Nat × TypeId)) (P : Program) (p : PV) : Option PV := match f with
  | some (off, ft) => (match aggB P ft, p with
    | some true, .t (.agg l) => some (.t (.agg ((l.drop off).take (P.cellsOf ft))))
    | some false, .t (.agg l) => (match l[off]? with | some x => some (.t x) | none => none)
    | some true, .agg l => some (mkAgg ((l.drop off).take (P.cellsOf ft)))
    | some false, .agg l => l[off]?
    | _, _ => none)
  | none => none
def fld (ag : Option Bool) (n off : Nat) (p : PV) : Option PV := match ag, p with
  | some true, .t (.agg l) => some (.t (.agg ((l.drop off).take n)))
  | some false, .t (.agg l) => (l[off]?).map .t
  | some true, .agg l => some (mkAgg ((l.drop off).take n))
  | some false, .agg l => l[off]?
  | _, _ => none
@[go_sem] theorem fieldPV_x (t : TypeId) (i : Nat) (p : PV) : fieldPV P t i p = fieldX (fieldB P t i) P p := nrfl rfl
@[go_sem] theorem fieldX_some (off : Nat) (ft : TypeId) (p : PV) : fieldX (some (off, ft)) P p = fld (aggB P ft) (P.cellsOf ft) off p := by
  unfold fieldX fld
  simp only
  generalize aggB P ft = ag
  cases ag with
  | none => rfl
  | some b =>
    cases b with
    | true => cases p with
      | t y => cases y <;> rfl
      | _ => rfl
    | false => cases p with
      | t y => cases y with
        | agg l => simp only; cases l[off]? <;> rfl
        | _ => rfl
      | _ => rfl
@[go_sem] theorem fld_tf (n off : Nat) (l : List Tr) : fld (some false) n off (.t (.agg l)) = (l[off]?).map .t := nrfl rfl
@[go_sem] theorem extractPV_t (l : List Tr) (i : Nat) : extractPV (.t (.tup l)) i = (l[i]?).map .t := by
  unfold extractPV; cases h : l[i]? <;> simp [h]
section
variable (t : TypeId) (k : IntKind) (a b : Int)
@[go_sem] theorem bin_add : binPV P h .add t (.t (.int k a)) (.t (.int k b)) = some (.t (.int k (k.wrap (a + b)))) := by simp [binPV, arith]
@[go_sem] theorem bin_sub : binPV P h .sub t (.t (.int k a)) (.t (.int k b)) = some (.t (.int k (k.wrap (a - b)))) := by simp [binPV, arith]
@[go_sem] theorem bin_mul : binPV P h .mul t (.t (.int k a)) (.t (.int k b)) = some (.t (.int k (k.wrap (a * b)))) := by simp [binPV, arith]
@[go_sem] theorem bin_quo : binPV P h .quo t (.t (.int k a)) (.t (.int k b)) = if b = 0 then none else some (.t (.int k (k.wrap (a.tdiv b)))) := by simp [binPV, arith]
@[go_sem] theorem bin_rem : binPV P h .rem t (.t (.int k a)) (.t (.int k b)) = if b = 0 then none else some (.t (.int k (a.tmod b))) := by simp [binPV, arith]
@[go_sem] theorem bin_and : binPV P h .and t (.t (.int k a)) (.t (.int k b)) = some (.t (.int k (k.wrap ((BitVec.ofInt k.bits a &&& BitVec.ofInt k.bits b).toNat)))) := by simp [binPV, arith]
@[go_sem] theorem bin_or : binPV P h .or t (.t (.int k a)) (.t (.int k b)) = some (.t (.int k (k.wrap ((BitVec.ofInt k.bits a ||| BitVec.ofInt k.bits b).toNat)))) := by simp [binPV, arith]
@[go_sem] theorem bin_xor : binPV P h .xor t (.t (.int k a)) (.t (.int k b)) = some (.t (.int k (k.wrap ((BitVec.ofInt k.bits a ^^^ BitVec.ofInt k.bits b).toNat)))) := by simp [binPV, arith]
@[go_sem] theorem bin_eql : binPV P h .eql t (.t (.int k a)) (.t (.int k b)) = some (.t (.bool (a == b))) := by simp [binPV, arith]
@[go_sem] theorem bin_neq : binPV P h .neq t (.t (.int k a)) (.t (.int k b)) = some (.t (.bool (a != b))) := by simp [binPV, arith]
@[go_sem] theorem bin_lss : binPV P h .lss t (.t (.int k a)) (.t (.int k b)) = some (.t (.bool (decide (a < b)))) := by simp [binPV, arith]
@[go_sem] theorem bin_leq : binPV P h .leq t (.t (.int k a)) (.t (.int k b)) = some (.t (.bool (decide (a ≤ b)))) := by simp [binPV, arith]
@[go_sem] theorem bin_gtr : binPV P h .gtr t (.t (.int k a)) (.t (.int k b)) = some (.t (.bool (decide (a > b)))) := by simp [binPV, arith]
@[go_sem] theorem bin_geq : binPV P h .geq t (.t (.int k a)) (.t (.int k b)) = some (.t (.bool (decide (a ≥ b)))) := by simp [binPV, arith]
@[go_sem] theorem bin_shl (k' : IntKind) : binPV P h .shl t (.t (.int k a)) (.t (.int k' b)) = if b < 0 then none else some (.t (.int k (k.wrap (a * 2 ^ (min b.toNat k.bits))))) := by simp [binPV, shiftPV]
@[go_sem] theorem bin_shr (k' : IntKind) : binPV P h .shr t (.t (.int k a)) (.t (.int k' b)) = if b < 0 then none else some (.t (.int k (a.fdiv (2 ^ (min b.toNat k.bits))))) := by simp [binPV, shiftPV]
@[go_sem] theorem un_neg : unPV .neg (.t (.int k a)) = some (.t (.int k (k.wrap (0 - a)))) := nrfl rfl
@[go_sem] theorem un_not (x : Bool) : unPV .not (.t (.bool x)) = some (.t (.bool (!x))) := nrfl rfl
end
def bEq (isB : Bool) (x : Bool) : Option PV := if isB = true then some (.t (.bool x)) else none
@[go_sem] theorem bin_beql (t : TypeId) (a b : Bool) : binPV P h .eql t (.t (.bool a)) (.t (.bool b)) = bEq (isBoolB P t) (a == b) := by simp [binPV, bEq]
@[go_sem] theorem bin_bneq (t : TypeId) (a b : Bool) : binPV P h .neq t (.t (.bool a)) (.t (.bool b)) = bEq (isBoolB P t) (a != b) := by simp [binPV, bEq]
@[go_sem] theorem bEq_true (x : Bool) : bEq true x = some (.t (.bool x)) := nrfl rfl
def nilX (e : Option TypeId) (b : Option Bool) : Option PV := match e, b with | some _, some b => some (.t (.bool b)) | _, _ => none
@[go_sem] theorem nilX_some (e : TypeId) (b : Bool) : nilX (some e) (some b) = some (.t (.bool b)) := nrfl rfl
@[go_sem] theorem bin_nileq (t : TypeId) (nn : Bool) (l : List Tr) : binPV P h .eql t (.t (.sl nn l)) (.t (.sl false [])) = nilX (elemB P t) (some (!nn)) := by
  simp only [binPV, isNilPV]; cases elemB P t <;> rfl
def convX (a b : Option IntKind) (n : Int) : Option PV := match a, b with | some _, some k => some (.t (.int k (k.wrap n))) | _, _ => none
@[go_sem] theorem conv_x (dst src : TypeId) (k : IntKind) (n : Int) : convPV P dst src (.t (.int k n)) = convX (intB P src) (intB P dst) n := by
  unfold convPV convX; cases intB P src <;> cases intB P dst <;> rfl
@[go_sem] theorem convX_some (a b : IntKind) (n : Int) : convX (some a) (some b) n = some (.t (.int b (b.wrap n))) := nrfl rfl
def newVarX (ag : Option Bool) (n : Nat) (m : Bool) (d : Tmp) (t : TypeId) (cs : List PV) (h : Hp) : Option (PV × Hp) := match ag with
  | some ag => if cs.length = n ∧ 0 < n ∧ (ag = true ∨ n = 1) ∧ cs.all PV.one = true then
      if m then some (.ad (hnext h d) 1 0, hnew h d ⟨cs, n, 1, t, ag, true⟩)
      else match trees cs with | some ts => some (.ro ts, h) | none => none
    else none
  | none => none
@[go_sem] theorem newVarPV_x (d : Tmp) (t : TypeId) (cs : List PV) : newVarPV P mu (some d) t cs h = newVarX (aggB P t) (P.cellsOf t) (mu d) d t cs h := by
  unfold newVarPV newVarX; cases aggB P t <;> rfl
def roX (ts : Option (List Tr)) (h : Hp) : Option (PV × Hp) := match ts with | some ts => some (.ro ts, h) | none => none
@[go_sem] theorem roX_some (ts : List Tr) : roX (some ts) h = some (.ro ts, h) := nrfl rfl
@[go_sem] theorem newVarX_f (ag : Bool) (n : Nat) (d : Tmp) (t : TypeId) (cs : List PV) : newVarX (some ag) n false d t cs h = if cs.length = n ∧ 0 < n ∧ (ag = true ∨ n = 1) ∧ cs.all PV.one = true then roX (trees cs) h else none := by
  simp only [newVarX, roX, Bool.false_eq_true, if_false]
@[go_sem] theorem newVarX_t (ag : Bool) (n : Nat) (d : Tmp) (t : TypeId) (cs : List PV) : newVarX (some ag) n true d t cs h = if cs.length = n ∧ 0 < n ∧ (ag = true ∨ n = 1) ∧ cs.all PV.one = true then some (.ad (hnext h d) 1 0, hnew h d ⟨cs, n, 1, t, ag, true⟩) else none := by
  simp only [newVarX, if_true]
def newRowX (ag : Option Bool) (n : Nat) (m : Bool) (d : Tmp) (e : TypeId) (len : Nat) (cs : List PV) (h : Hp) : Option (PV × Hp) := match ag with
  | some ag => if ag = false ∧ n ≠ 1 then none else
    if m then some (.rf (hnext h d) len, hnew h d ⟨cs, n, len, e, ag, true⟩)
    else match trees cs with | some ts => some (.t (.sl true (elems ag n len ts)), h) | none => none
  | none => none
@[go_sem] theorem newRowPV_x (d : Tmp) (e : TypeId) (len : Nat) (cs : List PV) : newRowPV P mu (some d) e len cs h = newRowX (aggB P e) (P.cellsOf e) (mu d) d e len cs h := by
  unfold newRowPV newRowX; cases aggB P e <;> rfl
def slX (ag : Bool) (n len : Nat) (ts : Option (List Tr)) (h : Hp) : Option (PV × Hp) := match ts with | some ts => some (.t (.sl true (elems ag n len ts)), h) | none => none
@[go_sem] theorem slX_some (ag : Bool) (n len : Nat) (ts : List Tr) : slX ag n len (some ts) h = some (.t (.sl true (elems ag n len ts)), h) := nrfl rfl
@[go_sem] theorem newRowX_f (ag : Bool) (n : Nat) (d : Tmp) (e : TypeId) (len : Nat) (cs : List PV) : newRowX (some ag) n false d e len cs h = if ag = false ∧ n ≠ 1 then none else slX ag n len (trees cs) h := by
  simp only [newRowX, slX, Bool.false_eq_true, if_false]
@[go_sem] theorem newRowX_t (ag : Bool) (n : Nat) (d : Tmp) (e : TypeId) (len : Nat) (cs : List PV) : newRowX (some ag) n true d e len cs h = if ag = false ∧ n ≠ 1 then none else some (.rf (hnext h d) len, hnew h d ⟨cs, n, len, e, ag, true⟩) := by
  simp only [newRowX, if_true]
@[go_sem] theorem elems_f (n len : Nat) (ts : List Tr) : elems false n len ts = ts := nrfl rfl
@[go_sem] theorem elems_t (n len : Nat) (ts : List Tr) : elems true n len ts = chunk n len ts := nrfl rfl
@[go_sem] theorem chunk_zero (n : Nat) (ts : List Tr) : chunk n 0 ts = [] := nrfl rfl
@[go_sem] theorem chunk_succ (n len : Nat) (ts : List Tr) : chunk n (len + 1) ts = .agg (ts.take n) :: chunk n len (ts.drop n) := nrfl rfl
@[go_sem] theorem zrow_zero (z : List Tr) : zrow z 0 = [] := nrfl rfl
@[go_sem] theorem zrow_succ (z : List Tr) (n : Nat) : zrow z (n + 1) = z ++ zrow z n := nrfl rfl
def fpX (q : Option (Nat × Nat)) (place : Nat → Option (Nat × Nat)) (cells : List PV) (v : PV) (rest : List (Nat × PV)) : Option (List PV) := match q with
  | some (off, size) => if v.cells.length = size ∧ off + v.cells.length ≤ cells.length ∧ v.cells.all PV.one = true then fillPV place (splice cells off v.cells) rest else none
  | none => none
@[go_sem] theorem fillPV_nil (place : Nat → Option (Nat × Nat)) (cells : List PV) : fillPV place cells [] = some cells := nrfl rfl
@[go_sem] theorem fillPV_cons (place : Nat → Option (Nat × Nat)) (cells : List PV) (i : Nat) (v : PV) (rest : List (Nat × PV)) : fillPV place cells ((i, v) :: rest) = fpX (place i) place cells v rest := nrfl rfl
@[go_sem] theorem fpX_some (off size : Nat) (place : Nat → Option (Nat × Nat)) (cells : List PV) (v : PV) (rest : List (Nat × PV)) : fpX (some (off, size)) place cells v rest = if v.cells.length = size ∧ off + v.cells.length ≤ cells.length ∧ v.cells.all PV.one = true then fillPV place (splice cells off v.cells) rest else none := nrfl rfl
def buildX (pl : Option (List (Nat × Nat))) (z : Option (List Tr)) (parts : List (Nat × PV)) : Option PV := match pl, z with
  | some pl, some z => (fillPV (fun i => pl[i]?) (z.map .t) parts).map mkAgg
  | _, _ => none
@[go_sem] theorem buildPV_x (t : TypeId) (parts : List (Nat × PV)) : buildPV P t parts = buildX (placesB P t) (zeroB P t) parts := by
  unfold buildPV buildX
  cases placesB P t with
  | none => rfl
  | some pl =>
    cases zeroB P t with
    | none => rfl
    | some z => simp only; cases fillPV (fun i => pl[i]?) (z.map .t) parts <;> rfl
@[go_sem] theorem buildX_some (pl : List (Nat × Nat)) (z : List Tr) (parts : List (Nat × PV)) : buildX (some pl) (some z) parts = (fillPV (fun i => pl[i]?) (z.map .t) parts).map mkAgg := nrfl rfl
def bsX (e : TypeId) (n : Nat) (len : Nat) (P : Program) (mu : Nat → Bool) (d : Option Tmp) (cs : Option (List PV)) (h : Hp) : Option (PV × Hp) := match cs with
  | some cs => if cs.all PV.one = true then newRowPV P mu d e len cs h else none
  | none => none
@[go_sem] theorem bsX_some (e : TypeId) (n len : Nat) (d : Option Tmp) (cs : List PV) : bsX e n len P mu d (some cs) h = if cs.all PV.one = true then newRowPV P mu d e len cs h else none := nrfl rfl
def buildSliceX (e : Option TypeId) (P : Program) (mu : Nat → Bool) (d : Option Tmp) (len : Nat) (parts : List (Nat × PV)) (h : Hp) : Option (PV × Hp) := match e with
  | some e => (match zeroB P e with
    | some z => if z.length = P.cellsOf e ∧ 0 < P.cellsOf e ∧ len * P.cellsOf e ≤ 16777216 then bsX e (P.cellsOf e) len P mu d (fillPV (fun i => some (i * P.cellsOf e, P.cellsOf e)) ((zrow z len).map .t) parts) h else none
    | none => none)
  | none => none
def bsZ (z : Option (List Tr)) (n : Nat) (e : TypeId) (P : Program) (mu : Nat → Bool) (d : Option Tmp) (len : Nat) (parts : List (Nat × PV)) (h : Hp) : Option (PV × Hp) := match z with
  | some z => if z.length = n ∧ 0 < n ∧ len * n ≤ 16777216 then bsX e n len P mu d (fillPV (fun i => some (i * n, n)) ((zrow z len).map .t) parts) h else none
  | none => none
@[go_sem] theorem buildSlicePV_x (t : TypeId) (d : Option Tmp) (len : Nat) (parts : List (Nat × PV)) : buildSlicePV P mu d t len parts h = buildSliceX (elemB P t) P mu d len parts h := by
  unfold buildSlicePV buildSliceX
  cases elemB P t with
  | none => rfl
  | some e =>
    simp only
    cases zeroB P e with
    | none => rfl
    | some z =>
      simp only
      split
      · cases fillPV (fun i => some (i * P.cellsOf e, P.cellsOf e)) ((zrow z len).map .t) parts <;> rfl
      · rfl
@[go_sem] theorem buildSliceX_some (e : TypeId) (d : Option Tmp) (len : Nat) (parts : List (Nat × PV)) : buildSliceX (some e) P mu d len parts h = bsZ (zeroB P e) (P.cellsOf e) e P mu d len parts h := nrfl rfl
@[go_sem] theorem bsZ_some (z : List Tr) (n : Nat) (e : TypeId) (d : Option Tmp) (len : Nat) (parts : List (Nat × PV)) : bsZ (some z) n e P mu d len parts h = if z.length = n ∧ 0 < n ∧ len * n ≤ 16777216 then bsX e n len P mu d (fillPV (fun i => some (i * n, n)) ((zrow z len).map .t) parts) h else none := nrfl rfl
def msX (e : Option TypeId) (P : Program) (mu : Nat → Bool) (d : Option Tmp) (n m : Int) (h : Hp) : Option (PV × Hp) := match e with
  | some e => (match zeroB P e with
    | some z => if z.length = P.cellsOf e ∧ 0 < P.cellsOf e ∧ m = n ∧ 0 ≤ n ∧ n * P.bytesOf e ≤ 281474976710656 ∧ n ≤ 4611686018427387904 then newRowPV P mu d e n.toNat ((zrow z n.toNat).map .t) h else none
    | none => none)
  | none => none
def msZ (z : Option (List Tr)) (c by_ : Nat) (e : TypeId) (P : Program) (mu : Nat → Bool) (d : Option Tmp) (n m : Int) (h : Hp) : Option (PV × Hp) := match z with
  | some z => if z.length = c ∧ 0 < c ∧ m = n ∧ 0 ≤ n ∧ n * by_ ≤ 281474976710656 ∧ n ≤ 4611686018427387904 then newRowPV P mu d e n.toNat ((zrow z n.toNat).map .t) h else none
  | none => none
@[go_sem] theorem makeSlicePV_x (t : TypeId) (d : Option Tmp) (n m : Int) : makeSlicePV P mu d t (.t (.int .i64 n)) (.t (.int .i64 m)) h = msX (elemB P t) P mu d n m h := by
  unfold makeSlicePV msX; cases elemB P t <;> rfl
@[go_sem] theorem msX_some (e : TypeId) (d : Option Tmp) (n m : Int) : msX (some e) P mu d n m h = msZ (zeroB P e) (P.cellsOf e) (P.bytesOf e) e P mu d n m h := nrfl rfl
@[go_sem] theorem msZ_some (z : List Tr) (c by_ : Nat) (e : TypeId) (d : Option Tmp) (n m : Int) : msZ (some z) c by_ e P mu d n m h = if z.length = c ∧ 0 < c ∧ m = n ∧ 0 ≤ n ∧ n * by_ ≤ 281474976710656 ∧ n ≤ 4611686018427387904 then newRowPV P mu d e n.toNat ((zrow z n.toNat).map .t) h else none := nrfl rfl
def lenX (is el : Bool) (h : Hp) (x : PV) : Option PV := if is = true then (match x with | .t (.str b) => some (.t (.int .i64 b.size)) | _ => none) else if el = true then lenPV h x else none
@[go_sem] theorem lenX_sl (nn : Bool) (l : List Tr) : lenX false true h (.t (.sl nn l)) = some (.t (.int .i64 l.length)) := nrfl rfl
variable {dr : Bool} {all os : List Oper} {d : Option Tmp} {ty : TypeId} {ps : String} {af : Array Edge}
theorem len_eval (x : Operand) (t : TypeId) : evalOp P mu ⟨d, .call ⟨.builtin .len, #[x], #[t]⟩, ty, ps, af, none⟩ s = still (lenX (isStrB P t) (elemB P t).isSome s.hp (ev s.sl x)) s.hp := by
  simp only [evalOp, lenX]
  split
  · generalize ev s.sl x = u
    cases u with
    | t y => cases y <;> rfl
    | _ => rfl
  · split <;> rfl
@[go_sem ↓] theorem kont_len (x : Operand) (t : TypeId) : kont P mu F (.ops false all (⟨d, .call ⟨.builtin .len, #[x], #[t]⟩, ty, ps, af, none⟩ :: os) :: r) .normal s = stK P mu F (lenX (isStrB P t) (elemB P t).isSome s.hp (ev s.sl x)) d (.ops false all os :: r) s := by
  rw [kont_opF rfl rfl, len_eval]; exact still_hpK _
@[go_sem ↓] theorem kont_lenD (x : Operand) (t : TypeId) : kont P mu F (.ops true all (⟨d, .call ⟨.builtin .len, #[x], #[t]⟩, ty, ps, af, none⟩ :: os) :: r) .normal s = drK (outer mu x || !(ev s.sl x).isRef) (stK P mu F (lenX (isStrB P t) (elemB P t).isSome s.hp (ev s.sl x)) d (.ops true all os :: r) s) := by
  rw [kont_drawn rfl rfl, len_eval]; exact congrArg _ (still_hpK _)
theorem apArg_same (t : TypeId) (q : PV) : apArg P t t q = q := by unfold apArg; rw [if_pos rfl]
theorem append_bare (x y : Operand) (t u : TypeId) (ty : TypeId) (ps : String) (af : Array Edge) : bare mu ⟨d, .call ⟨.builtin .append, #[x, y], #[t, u]⟩, ty, ps, af, none⟩ s.sl = apX mu d (ev s.sl x) (ev s.sl y) := by
  show (apX mu d (ev s.sl x) (ev s.sl y) && true && true) = _
  simp
@[go_sem ↓] theorem kont_append (x y : Operand) (t : TypeId) : kont P mu F (.ops false all (⟨d, .call ⟨.builtin .append, #[x, y], #[t, t]⟩, ty, ps, af, none⟩ :: os) :: r) .normal s = hpK P mu F (appendPV P mu d t (ev s.sl x) (ev s.sl y) s.hp) d (.ops false all os :: r) s := by
  rw [kont_opF rfl rfl]; simp only [evalOp, apArg_same]
@[go_sem ↓] theorem kont_appendD (x y : Operand) (t : TypeId) : kont P mu F (.ops true all (⟨d, .call ⟨.builtin .append, #[x, y], #[t, t]⟩, ty, ps, af, none⟩ :: os) :: r) .normal s = drK (apX mu d (ev s.sl x) (ev s.sl y)) (hpK P mu F (appendPV P mu d t (ev s.sl x) (ev s.sl y) s.hp) d (.ops true all os :: r) s) := by
  rw [kont_drawn rfl rfl, append_bare]; simp only [evalOp, apArg_same]
@[go_sem] theorem apX_no (p q : PV) (h : mu 3999999 = false) : apX mu d p q = true := by unfold apX; rw [h]; rfl
@[go_sem] theorem calleeOf_func (sl : Sl) (g : FuncId) (args : List Operand) : calleeOf sl (.func g) args = some (g, evs sl args) := by simp [calleeOf, ev]
def calleeX (f : PV) (vs : List PV) : Option (FuncId × List PV) := match f with
  | .t (.fn g caps) => some (g, vs ++ caps.map .t)
  | .fn g caps => some (g, vs ++ caps)
  | _ => none
@[go_sem] theorem calleeOf_tmp (sl : Sl) (t : Tmp) (args : List Operand) : calleeOf sl (.tmp t) args = calleeX (sl t) (evs sl args) := nrfl rfl
@[go_sem] theorem calleeX_t (g : FuncId) (caps : List Tr) (vs : List PV) : calleeX (.t (.fn g caps)) vs = some (g, vs ++ caps.map .t) := nrfl rfl
theorem reach_t (k : Nat) (x : Tr) : reach h k (.t x) = [] := by cases k <;> rfl
theorem toTr_t (k : Nat) (x : Tr) : toTr h k (.t x) = some x := by cases k <;> rfl
theorem flat_reach (ts : List Tr) (k : Nat) : (ts.map PV.t).flatMap (reach h k) = [] := by
  induction ts with
  | nil => rfl
  | cons a l ih => simp [reach_t, ih]
theorem clK_mk {g : FuncId} {ts : List Tr} {x : Tr} {args : List PV} (hd : DCall P g ts x) (ha : args = ts.map .t) (hk : kont P mu F r .normal (St.put s d (.t x))) : clK P mu F dr d (some (g, args)) r s := by
  subst ha
  simp only [clK, callW]
  split
  · exact .inl ⟨ts, x, trees_map ts, hd, hk⟩
  · refine .inl ⟨ts, x, mapO_t ts, hd, ?_⟩
    rw [flat_reach]
    simp only [frz, List.foldl_nil, ite_self]
    exact hk
theorem clK_sc {g : FuncId} {ts : List Tr} {x : Tr} {args : List PV} (hd : DCall P g ts x) (ha : mapO (toTr s.hp dep) args = some ts) (hs : x.scalar = true) (hk : kont P mu F r .normal (St.put s d (.t x))) : clK P mu F false d (some (g, args)) r s := by
  simp only [clK, callW, Bool.false_eq_true, if_false]
  exact .inl ⟨ts, x, ha, hd, by rw [if_pos hs]; exact hk⟩
theorem clK_fz {g : FuncId} {ts : List Tr} {x : Tr} {args : List PV} (hd : DCall P g ts x) (ha : mapO (toTr s.hp dep) args = some ts) (hs : x.scalar = false) (hk : kont P mu F r .normal (St.put { s with hp := frz s.hp (args.flatMap (reach s.hp dep)) } d (.t x))) : clK P mu F false d (some (g, args)) r s := by
  simp only [clK, callW, Bool.false_eq_true, if_false]
  exact .inl ⟨ts, x, ha, hd, by rw [hs]; simpa using hk⟩
theorem clK_fx {g : FuncId} {ts : List Tr} {x : Tr} {args : List PV} (hd : DCall P g ts x) (ha : mapO (toTr s.hp dep) args = some ts) (hf : fatB mu d = true) (hk : kont P mu F r .normal (St.put { s with hp := frz s.hp (args.flatMap (reach s.hp dep)) } d (.t x))) : clK P mu F true d (some (g, args)) r s := by
  simp only [clK, callW, if_true]
  exact .inr (.inl ⟨hf, _, _, .inr ⟨ts, x, ha, hd, rfl, rfl⟩, hk⟩)
theorem clK_ix {g : FuncId} {args : List PV} {v : PV} {h' : Hp} (hd : ICall P g args s.hp fun v' h'' => v' = v ∧ h'' = h') (hf : fatB mu d = true) (hk : kont P mu F r .normal (St.put { s with hp := h' } d v)) : clK P mu F dr d (some (g, args)) r s := by
  simp only [clK, callW]
  split
  · exact .inr (.inl ⟨hf, v, h', .inl hd, hk⟩)
  · exact .inr (hd.mono fun v' h'' ⟨e1, e2⟩ => by rw [e1, e2]; exact hk)
@[go_sem] theorem hget_new (s' : Nat) (o : Obj) : hget (hnew h s' o) (hnext h s') = some o := by rw [hget_hnew, if_pos rfl]
theorem hget_new_ne {s' : Nat} {o : Obj} {id : Id} (hn : id.1 ≠ s') : hget (hnew h s' o) id = hget h id := by
  rw [hget_hnew, if_neg]
  intro e; exact hn (by rw [e]; rfl)
theorem hset_new (s' : Nat) (o o' : Obj) : hset (hnew h s' o) (hnext h s') o' = hnew h s' o' := by
  funext u
  unfold hset hnew hnext upd
  by_cases hu : u = s'
  · subst hu; simp
  · simp [hu]
attribute [go_sem] hset_new
@[go_sem] theorem hget_new_next {h' : Hp} {s1 s2 : Nat} (o : Obj) (hs : (s2 == s1) = false) : hget (hnew h s1 o) (hnext h' s2) = hget h (hnext h' s2) := by
  refine hget_new_ne ?_
  simpa [hnext] using hs
@[go_sem] theorem hnext_fst (s' : Nat) : (hnext h s').1 = s' := nrfl rfl
@[go_sem] theorem endK_ret (fn : Func) (x : Tr) : endK P fn x .ret s = (resTr P s fn.results.toList = some x) := nrfl rfl
def tupX (l : Option (List Tr)) : Option Tr := match l with | some ts => some (.tup ts) | none => none
@[go_sem] theorem tupX_some (l : List Tr) : tupX (some l) = some (.tup l) := nrfl rfl
theorem resTr_eq (l : List ResultVar) : resTr P s l = (match mapO (resOne P s) l with | some [x] => some x | some ts => some (.tup ts) | none => none) := rfl
@[go_sem] theorem resTr_one (a : ResultVar) : resTr P s [a] = resOne P s a := by
  rw [resTr_eq]; simp only [mapO]; cases resOne P s a <;> rfl
@[go_sem] theorem resTr_more (a b : ResultVar) (l : List ResultVar) : resTr P s (a :: b :: l) = tupX (mapO (resOne P s) (a :: b :: l)) := by
  rw [resTr_eq]; simp only [mapO]; cases resOne P s a <;> cases resOne P s b <;> cases mapO (resOne P s) l <;> rfl
def consX (a : Option Tr) (l : Option (List Tr)) : Option (List Tr) := match a, l with | some b, some bs => some (b :: bs) | _, _ => none
@[go_sem] theorem consX_some (a : Tr) (l : List Tr) : consX (some a) (some l) = some (a :: l) := nrfl rfl
@[go_sem] theorem mapO_res_nil : mapO (resOne P s) [] = some [] := nrfl rfl
@[go_sem] theorem mapO_res_cons (a : ResultVar) (l : List ResultVar) : mapO (resOne P s) (a :: l) = consX (resOne P s a) (mapO (resOne P s) l) := by
  simp only [mapO, consX]; cases resOne P s a <;> cases mapO (resOne P s) l <;> rfl
@[go_sem] theorem mapO_tr_nil (k : Nat) : mapO (toTr h k) [] = some [] := nrfl rfl
@[go_sem] theorem mapO_tr_cons (k : Nat) (a : PV) (l : List PV) : mapO (toTr h k) (a :: l) = consX (toTr h k a) (mapO (toTr h k) l) := by
  simp only [mapO, consX]; cases toTr h k a <;> cases mapO (toTr h k) l <;> rfl
@[go_sem] theorem resOne_tmp (t : Tmp) : resOne P s (.tmp t) = toTr s.hp dep (s.sl t) := nrfl rfl
def toTrO (h : Hp) (x : Option PV) : Option Tr := match x with | some p => toTr h dep p | none => none
@[go_sem] theorem toTrO_some (x : PV) : toTrO h (some x) = toTr h dep x := nrfl rfl
@[go_sem] theorem resOne_cell (a : Tmp) (t : TypeId) : resOne P s (.cell a t) = toTrO s.hp (loadPV P t (s.sl a) s.hp) := nrfl rfl
attribute [go_sem] toTr_t reach_t
theorem wrap_i64 {n : Int} (h1 : -9223372036854775808 ≤ n) (h2 : n ≤ 9223372036854775807) : IntKind.i64.wrap n = n := by
  have e1 : (2 : Int) ^ IntKind.i64.bits = 18446744073709551616 := by decide
  have e2 : (2 : Int) ^ (IntKind.i64.bits - 1) = 9223372036854775808 := by decide
  unfold IntKind.wrap
  simp only [e1, e2]
  by_cases hn : n % 18446744073709551616 ≥ 9223372036854775808
  · rw [if_pos (by simp [IntKind.signed, hn])]; omega
  · rw [if_neg (by simp [IntKind.signed, hn])]; omega
end
end Go.Vm
end
section
set_option linter.unusedSimpArgs false
namespace Go.Vm
open Go
section
variable {P : Program} {mu : Nat → Bool} {F : Ex → St → Prop} {r : List Item} {s : St} {h : Hp}
theorem wrap_succ {k : Nat} (hk : k < 9223372036854775807) : IntKind.i64.wrap ((k : Int) + 1) = ((k + 1 : Nat) : Int) := by
  rw [wrap_i64 (by omega) (by omega)]; rfl
theorem kont_split (c : Code) (G : St → Prop) (b : Nat) (body : Code) : kont P mu F (.code body :: .blk b :: .back (kont P mu F (.code c :: .back G :: r) .normal) :: r) .normal s = kont P mu F (.code body :: .blk b :: .code c :: .back G :: r) .normal s := by
  show Vm.wp P mu body s (kont P mu F (.blk b :: _)) = Vm.wp P mu body s (kont P mu F (.blk b :: _))
  congr 1
theorem kont_frame {G : St → Prop} {b : Nat} {body : Code} (hk : kont P mu F (.code body :: .blk b :: .back G :: r) .normal s) :
    kont P mu F (.code body :: .blk b :: .back (fun s'' => G s'' ∧ ∀ t, (writes body).contains t = false → s''.sl t = s.sl t) :: r) .normal s := by
  refine vwp_mono _ _ _ _ (fun e s'' ⟨h1, h2⟩ => ?_) (vwp_frame _ _ _ hk)
  have h3 : ∀ t, (writes body).contains t = false → s''.sl t = s.sl t := fun t ht => h2 t (by simpa using ht)
  cases e with
  | normal => exact ⟨h1, h3⟩
  | exit n =>
    rw [kont_blk_exit] at h1 ⊢
    by_cases hn : n = b
    · rw [if_pos hn] at h1 ⊢; exact ⟨h1, h3⟩
    · rw [if_neg hn] at h1 ⊢; exact h1
  | ret => exact h1
theorem kont_back_mono {G G' : St → Prop} {b : Nat} {body : Code} (hg : ∀ s, G s → G' s) (hk : kont P mu F (.code body :: .blk b :: .back G :: r) .normal s) : kont P mu F (.code body :: .blk b :: .back G' :: r) .normal s := by
  refine vwp_mono _ _ _ _ (fun e s'' h1 => ?_) hk
  cases e with
  | normal => exact hg _ h1
  | exit n =>
    rw [kont_blk_exit] at h1 ⊢
    by_cases hn : n = b
    · rw [if_pos hn] at h1 ⊢; exact hg _ h1
    · rw [if_neg hn] at h1 ⊢; exact h1
  | ret => exact h1
def sepB (c nx ix ln : Nat) (body : Code) : Bool := !(c == ix) && !(c == ln) && !(nx == ix) && !(nx == ln) && !(ix == ln) && !(writes body).contains ix && !(writes body).contains ln
theorem loop_range {α : Type} (l : List α) (J : Nat → St → Prop) {a1 a2 b b1 c nx ix ln : Nat} {body : Code} {t1 t2 t3 t4 t5 t6 t7 : TypeId} {p1 p2 p3 : String} {f1 f2 f3 : Array Edge}
    (hix : s.sl ix = .t (.int .i64 0)) (hln : s.sl ln = .t (.int .i64 l.length)) (hmax : l.length ≤ 9223372036854775807) (hsep : sepB c nx ix ln body = true)
    (hst : ∀ k s' v w, J k s' → J k ⟨upd (upd s'.sl nx v) ix w, s'.hp⟩) (hst1 : ∀ k s' u, J k s' → J k ⟨upd s'.sl c u, s'.hp⟩) (h0 : J 0 s)
    (hr : ∀ (k : Nat) (x : α) (s' : St), l[k]? = some x → l.drop k = x :: l.drop (k + 1) → k < l.length → J k s' → s'.sl ix = .t (.int .i64 k) →
      (∀ t, (c :: nx :: ix :: writes body).contains t = false → s'.sl t = s.sl t) → ∀ G : St → Prop, (∀ s'', J (k + 1) s'' → G s'') → kont P mu F (.code body :: .blk b1 :: .back G :: r) .normal s')
    (he : ∀ s', J l.length s' → (∀ t, (c :: nx :: ix :: writes body).contains t = false → s'.sl t = s.sl t) → kont P mu F r (.exit b) s') :
    kont P mu F (.code (.loop (.seq (.region a1 #[⟨some c, .binOp .lss t1 (.tmp ix) (.tmp ln) t2, t3, p1, f1, none⟩] false) (.seq (.cond (.tmp c) .skip (.exit b)) (.seq (.block b1 body)
      (.region a2 #[⟨some nx, .binOp .add t4 (.tmp ix) (.const (.int .i64 1)) t5, t6, p2, f2, none⟩, ⟨some ix, .move (.tmp nx), t7, p3, f3, none⟩] false))))) :: r) .normal s := by
  simp only [sepB, Bool.and_eq_true, Bool.not_eq_true', beq_eq_false_iff_ne, ne_eq] at hsep
  obtain ⟨⟨⟨⟨⟨⟨d1, d2⟩, d3⟩, d4⟩, d5⟩, d6⟩, d7⟩ := hsep
  refine loop_mk (fun m s' => ∃ k : Nat, k ≤ l.length ∧ m = l.length - k ∧ s'.sl ix = .t (.int .i64 k) ∧ s'.sl ln = .t (.int .i64 l.length) ∧ J k s' ∧ (∀ t, (c :: nx :: ix :: writes body).contains t = false → s'.sl t = s.sl t)) l.length
    ⟨0, Nat.zero_le _, rfl, hix, hln, h0, fun _ _ => rfl⟩ ?_
  rintro _ s' ⟨k, hk, rfl, h1, h2, hJ, hf⟩ _ G hG
  have hf' : ∀ t u, (c :: nx :: ix :: writes body).contains t = false → (upd s'.sl c u) t = s.sl t := fun t u ht => by
    rw [upd_ne _ _ _ _ (by intro e; subst e; simp at ht)]; exact hf t ht
  simp only [kont_seq, kont_region, kont_binOp, ev_tmp, h1, h2, bin_lss, stK_some, kont_ops_nil, kont_cond, put_some, upd_eq, boolOf_bool]
  refine sD (fun hc => ?_) (fun hc => ?_)
  · have hlt : k < l.length := by simpa using hc
    simp only [kont_seq, kont_skip, kont_block]
    rw [← kont_split]
    have hs1 : (upd s'.sl c (.t (.bool (decide ((k : Int) < l.length))))) ix = .t (.int .i64 k) := by rw [upd_ne _ _ _ _ (Ne.symm d1)]; exact h1
    have hs2 : (upd s'.sl c (.t (.bool (decide ((k : Int) < l.length))))) ln = .t (.int .i64 l.length) := by rw [upd_ne _ _ _ _ (Ne.symm d2)]; exact h2
    refine kont_back_mono (fun s'' ⟨hJ', hfr⟩ => ?_) (kont_frame (hr k l[k] ⟨upd s'.sl c (.t (.bool (decide ((k : Int) < l.length)))), s'.hp⟩ (List.getElem?_eq_getElem hlt) (List.drop_eq_getElem_cons hlt) hlt (hst1 _ _ _ hJ) hs1 (fun t ht => hf' t _ ht) (J (k + 1)) (fun s'' hJ' => hJ')))
    have e1 : s''.sl ix = .t (.int .i64 k) := (hfr ix d6).trans hs1
    have e2 : s''.sl ln = .t (.int .i64 l.length) := (hfr ln d7).trans hs2
    simp only [kont_region, List.toList_toArray, kont_binOp, ev_tmp, ev_int, e1, bin_add, stK_some, put_some, kont_move, upd_eq, kont_ops_nil, kont_back, wrap_succ (Nat.lt_of_lt_of_le hlt hmax)]
    refine hG (l.length - (k + 1)) _ (by omega) ⟨k + 1, hlt, rfl, upd_eq _ _ _, ?_, hst _ _ _ _ hJ', fun t ht => ?_⟩
    · simp only; rw [upd_ne _ _ _ _ (Ne.symm d5), upd_ne _ _ _ _ (Ne.symm d4)]; exact e2
    · have h5 : (writes body).contains t = false := by simp only [List.contains_cons, Bool.or_eq_false_iff] at ht; exact ht.2.2.2
      have h6 : t ≠ ix := by intro e; subst e; simp at ht
      have h7 : t ≠ nx := by intro e; subst e; simp at ht
      simp only
      rw [upd_ne _ _ _ _ h6, upd_ne _ _ _ _ h7, hfr t h5]
      exact hf' t _ ht
  · have hkl : k = l.length := by simp at hc; omega
    subst hkl
    simp only [kont_exit, kont_code_exit, kont_back_exit]
    exact he _ (hst1 _ _ _ hJ) (fun t ht => hf' t _ ht)
mutual
def Tr.sized : Tr → Bool
  | .agg l => sizedL l
  | .tup l => sizedL l
  | .sl _ l => decide (l.length ≤ 9223372036854775807) && sizedL l
  | .fn _ l => sizedL l
  | _ => true
def sizedL : List Tr → Bool
  | [] => true
  | x :: r => x.sized && sizedL r
end
theorem sizedL_mem {l : List Tr} : sizedL l = true ↔ ∀ x ∈ l, x.sized = true := by
  induction l with
  | nil => simp [sizedL]
  | cons a l ih => simp [sizedL, ih]
theorem sized_of_cells {x : Tr} (hx : ∀ y ∈ x.cells, y.sized = true) (h : ∀ l, x = .agg l → x.cells = l) : x.sized = true := by
  cases x with
  | agg l => simp only [Tr.sized, sizedL_mem]; exact hx
  | _ => exact hx _ (by simp [Tr.cells])
theorem mem_flat {l : List Tr} {x y : Tr} (hx : x ∈ l) (hy : y ∈ x.cells) : y ∈ flat l := List.mem_flatMap.2 ⟨x, hx, hy⟩
theorem Reads.sized {w : World} {L : Nat → Prop} {x : Tr} {v : Value} (hr : Reads w L x v) : x.sized = true := by
  induction hr with
  | agg hl h ih => simp only [Tr.sized, sizedL_mem]; intro x hx; obtain ⟨i, hi⟩ := List.mem_iff_getElem?.1 hx; exact ih i x hi
  | tup hl h ih => simp only [Tr.sized, sizedL_mem]; intro x hx; obtain ⟨i, hi⟩ := List.mem_iff_getElem?.1 hx; exact ih i x hi
  | fn hl h ih => simp only [Tr.sized, sizedL_mem]; intro x hx; obtain ⟨i, hi⟩ := List.mem_iff_getElem?.1 hx; exact ih i x hi
  | @sl l a cap esz vals hs hc hm he hcell h ih =>
    simp only [Tr.sized, Bool.and_eq_true, decide_eq_true_eq, sizedL_mem]
    refine ⟨Nat.le_trans hc (by simpa [maxLen] using hm), fun x hx => sized_of_cells (fun y hy => ?_) (fun l e => by subst e; rfl)⟩
    obtain ⟨i, hi⟩ := List.mem_iff_getElem?.1 (mem_flat hx hy)
    exact ih i y hi
  | nil => rfl
  | _ => rfl
theorem dcall_sized {g : FuncId} {args : List Tr} {x : Tr} (he : Enters P g) (hd : sizedL args = true → DCall P g args x) : DCall P g args x := by
  refine ⟨he, fun w A vs hA hr => ?_⟩
  refine (hd (sizedL_mem.2 fun y hy => ?_)).2 w A vs hA hr
  obtain ⟨i, hi⟩ := List.mem_iff_getElem?.1 hy
  exact (hr.2 i y hi).sized
theorem dcall_mk {g : FuncId} {fn : Func} {c : Code} {args : List Tr} {x : Tr} (hm : P.follows .mixedOrders = true) (hf : P.funcs[g]? = some fn) (hb : fn.body = some c) (hname : (fn.name == "runtime.NumGoroutine") = false)
    (mu : Nat → Bool) (hok : codeOK mu fn.ntmps c = true) (hn : Nat.ble args.length fn.ntmps = true) (hw : sizedL args = true → kont P mu (endK P fn x) [.code c] .normal (initSt args)) : DCall P g args x :=
  dcall_sized ⟨fn, hf, hname, by simp [hb]⟩ fun hs => dcall_of_wp hm hf hb hname mu hok (Nat.le_of_ble_eq_true hn) (by rw [kont_start]; exact hw hs)
attribute [go_sem] sizedL Tr.sized
def elemOK (ag : Bool) (esz : Nat) (x : Tr) : Prop := (ag = true → x = .agg x.cells) ∧ (ag = false → x.cells = [x]) ∧ x.cells.length = esz
structure Own (h : Hp) (site : Nat) (e : TypeId) (esz : Nat) (ag : Bool) (v : PV) (nn : Bool) (l : List Tr) : Prop where
  ok : ∀ x ∈ l, elemOK ag esz x
  is : (nn = false ∧ l = [] ∧ v = .t (.sl false [])) ∨ (nn = true ∧ ∃ id : Id, id.1 = site ∧ v = .rf id l.length ∧ hget h id = some ⟨(flat l).map .t, esz, l.length, e, ag, true⟩)
theorem Own.nil {site : Nat} {e : TypeId} {esz : Nat} {ag : Bool} : Own h site e esz ag (.t (.sl false [])) false [] := ⟨fun _ h => by simp at h, .inl ⟨rfl, rfl, rfl⟩⟩
theorem Own.frame {h' : Hp} {site : Nat} {e : TypeId} {esz : Nat} {ag nn : Bool} {v : PV} {l : List Tr} (ho : Own h site e esz ag v nn l) (hs : h' site = h site) : Own h' site e esz ag v nn l := by
  refine ⟨ho.ok, ?_⟩
  rcases ho.is with h1 | ⟨h0, id, h1, h2, h3⟩
  · exact .inl h1
  · refine .inr ⟨h0, id, h1, h2, ?_⟩
    unfold hget at h3 ⊢
    rw [h1, hs, ← h1]; exact h3
theorem flat_append (a b : List Tr) : flat (a ++ b) = flat a ++ flat b := by simp [flat]
theorem chunk_flat {esz : Nat} : ∀ {l : List Tr}, (∀ x ∈ l, elemOK true esz x) → chunk esz l.length (flat l) = l
  | [], _ => rfl
  | a :: l, hl => by
    have ha := hl a (by simp)
    have ih := chunk_flat (fun x hx => hl x (List.mem_cons_of_mem _ hx))
    simp only [flat] at ih
    simp only [List.length_cons, chunk, flat, List.flatMap_cons]
    rw [List.take_left' ha.2.2, List.drop_left' ha.2.2, ih, ← ha.1 rfl]
theorem elems_flat {ag : Bool} {esz : Nat} {l : List Tr} (hl : ∀ x ∈ l, elemOK ag esz x) : elems ag esz l.length (flat l) = l := by
  cases ag with
  | true => exact chunk_flat hl
  | false => exact flat_one l fun x hx => (hl x hx).2.1 rfl
theorem toTr_rf' (k : Nat) (id : Id) (n : Nat) : toTr h (k + 1) (.rf id n) = (match hget h id with | some o => if o.len = n then (match mapO (toTr h k) o.cs with | some ts => some (.sl true (elems o.ag o.esz o.len ts)) | none => none) else none | none => none) := rfl
theorem Own.toTr {site : Nat} {e : TypeId} {esz : Nat} {ag nn : Bool} {v : PV} {l : List Tr} (ho : Own h site e esz ag v nn l) (k : Nat) : toTr h (k + 1) v = some (.sl nn l) := by
  rcases ho.is with ⟨h0, h1, h2⟩ | ⟨h0, id, h1, h2, h3⟩
  · subst h0; subst h1; subst h2; rfl
  · subst h2; subst h0
    rw [toTr_rf', h3]
    simp only [if_true, mapO_t, elems_flat ho.ok]
theorem Own.dep {site : Nat} {e : TypeId} {esz : Nat} {ag nn : Bool} {v : PV} {l : List Tr} (ho : Own h site e esz ag v nn l) : Go.Vm.toTr h dep v = some (.sl nn l) := ho.toTr 5
theorem Own.one {site : Nat} {e : TypeId} {esz : Nat} {ag nn : Bool} {v : PV} {l : List Tr} (ho : Own h site e esz ag v nn l) : v.one = true ∧ v.cells = [v] := by
  rcases ho.is with ⟨_, _, rfl⟩ | ⟨_, _, _, rfl, _⟩ <;> exact ⟨rfl, rfl⟩
theorem Own.len {site : Nat} {e : TypeId} {esz : Nat} {ag nn : Bool} {v : PV} {l : List Tr} (ho : Own h site e esz ag v nn l) : lenX false true h v = some (.t (.int .i64 l.length)) := by
  rcases ho.is with ⟨_, rfl, rfl⟩ | ⟨_, id, _, rfl, h3⟩
  · rfl
  · simp [lenX, lenPV, valid, h3]
theorem hset_site {id : Id} {d : Nat} (o : Obj) (hd : (d == id.1) = false) : hset h id o d = h d := by
  unfold hset upd
  rw [if_neg (by simpa using hd)]
mutual
def Tr.wf : Tr → Bool
  | .agg l => wfL l
  | .tup l => wfL l
  | .sl nn l => (nn || l.isEmpty) && wfL l
  | .fn _ l => wfL l
  | .ptr l => wfL l
  | _ => true
def wfL : List Tr → Bool
  | [] => true
  | x :: r => x.wf && wfL r
end
theorem wfL_mem {l : List Tr} : wfL l = true ↔ ∀ x ∈ l, x.wf = true := by
  induction l with
  | nil => simp [wfL]
  | cons a l ih => simp [wfL, ih]
theorem Reads.wf {w : World} {L : Nat → Prop} {x : Tr} {v : Value} (hr : Reads w L x v) : x.wf = true := by
  induction hr with
  | agg hl h ih => simp only [Tr.wf, wfL_mem]; intro x hx; obtain ⟨i, hi⟩ := List.mem_iff_getElem?.1 hx; exact ih i x hi
  | tup hl h ih => simp only [Tr.wf, wfL_mem]; intro x hx; obtain ⟨i, hi⟩ := List.mem_iff_getElem?.1 hx; exact ih i x hi
  | fn hl h ih => simp only [Tr.wf, wfL_mem]; intro x hx; obtain ⟨i, hi⟩ := List.mem_iff_getElem?.1 hx; exact ih i x hi
  | ptr hs hcell h ih => simp only [Tr.wf, wfL_mem]; intro x hx; obtain ⟨i, hi⟩ := List.mem_iff_getElem?.1 hx; exact ih i x hi
  | @sl l a cap esz vals hs hc hm he hcell h ih =>
    simp only [Tr.wf, Bool.true_or, Bool.true_and, wfL_mem]
    intro x hx
    have key : ∀ y ∈ x.cells, y.wf = true := fun y hy => by
      obtain ⟨i, hi⟩ := List.mem_iff_getElem?.1 (mem_flat hx hy)
      exact ih i y hi
    cases x with
    | agg l => simp only [Tr.wf, wfL_mem]; exact key
    | _ => exact key _ (by simp [Tr.cells])
  | nil => rfl
  | _ => rfl
theorem dcall_wf {g : FuncId} {args : List Tr} {x : Tr} (he : Enters P g) (hd : wfL args = true → DCall P g args x) : DCall P g args x := by
  refine ⟨he, fun w A vs hA hr => ?_⟩
  refine (hd (wfL_mem.2 fun y hy => ?_)).2 w A vs hA hr
  obtain ⟨i, hi⟩ := List.mem_iff_getElem?.1 hy
  exact (hr.2 i y hi).wf
theorem toTr_ints {id : Id} {l : List Tr} {esz n : Nat} {e : TypeId} {lv : Bool} (k : Nat) (hg : hget h id = some ⟨l.map .t, esz, n, e, false, lv⟩) : toTr h (k + 1) (.rf id n) = some (.sl true l) := by
  rw [toTr_rf', hg]; simp only [if_true, mapO_t]; rfl
def slcX (c : Option Nat) (fl : Nat) (nn : Bool) (l : List Tr) (a b : Option Int) (h : Hp) : Option (PV × Hp) := match c, a, b with
  | some c, some a, some b => if fl = l.length * c ∧ 0 ≤ a ∧ a ≤ b ∧ b ≤ l.length then some (.t (.sl nn ((l.take b.toNat).drop a.toNat)), h) else none
  | _, _, _ => none
@[go_sem] theorem slicePV_sl (t : TypeId) (nn : Bool) (l : List Tr) (lo hi : Option PV) : slicePV P t (.t (.sl nn l)) lo hi h = slcX ((elemB P t).map P.cellsOf) (flat l).length nn l (lo.elim (some 0) intOf) (hi.elim (some (l.length : Int)) intOf) h := by
  simp only [slicePV, slcX]
  cases elemB P t with
  | none => rfl
  | some e =>
    simp only [Option.map_some]
    cases lo.elim (some 0) intOf <;> cases hi.elim (some (l.length : Int)) intOf <;> simp only <;> (try (split <;> rfl))
    rename_i a b
    by_cases h1 : (flat l).length = l.length * P.cellsOf e
    · rw [if_pos h1]
      by_cases h2 : 0 ≤ a ∧ a ≤ b ∧ b ≤ l.length
      · rw [if_pos h2, if_pos ⟨h1, h2⟩]
      · rw [if_neg h2, if_neg (fun h3 => h2 h3.2)]
    · rw [if_neg h1, if_neg (fun h3 => h1 h3.1)]
@[go_sem] theorem slcX_some (c : Nat) (fl : Nat) (nn : Bool) (l : List Tr) (a b : Int) : slcX (some c) fl nn l (some a) (some b) h = if fl = l.length * c ∧ 0 ≤ a ∧ a ≤ b ∧ b ≤ l.length then some (.t (.sl nn ((l.take b.toNat).drop a.toNat)), h) else none := nrfl rfl
@[go_sem] theorem intOf_int (k : IntKind) (n : Int) : intOf (.t (.int k n)) = some n := nrfl rfl
attribute [go_sem] Option.elim_some Option.elim_none
theorem hpK_if {c : Prop} [Decidable c] {x : PV × Hp} {d : Option Tmp} (hc : c) (hk : hpK P mu F (some x) d r s) : hpK P mu F (if c then some x else none) d r s := by rw [if_pos hc]; exact hk
@[go_sem] theorem hget_set_same (id : Id) (o : Obj) : hget (hset h id o) id = (hget h id).map fun _ => o := by
  rw [hget_hset, if_pos rfl]; cases hget h id <;> rfl
@[go_sem] theorem hget_set_ne {id id' : Id} (o : Obj) (hn : (id'.1 == id.1) = false) : hget (hset h id o) id' = hget h id' := by
  rw [hget_hset, if_neg]; intro e; subst e; simp at hn
@[go_sem] theorem hget_new_lit {a b s' : Nat} (o : Obj) (hn : (a == s') = false) : hget (hnew h s' o) (a, b) = hget h (a, b) := by
  refine hget_new_ne ?_; simpa using hn
attribute [go_sem] hset_site
end
end Go.Vm
end
section
set_option linter.unusedSimpArgs false
namespace Go.Vm
open Go Go.Proofs
namespace YtajgclnahfmfmaaGreat
open Go.Proofs.Tryz
abbrev noMu : Nat → Bool := fun _ => false
abbrev i64 (n : Int) : Tr := .int .i64 n
theorem orders : Tryz.prog.follows .mixedOrders = true := by kernel_rfl
attribute [go_sem] Tryz.results166 Tryz.results76 Tryz.results59 Tryz.results142 Tryz.results121 Tryz.results196 Tryz.results111 Tryz.results149 Tryz.results228 Tryz.results97 Tryz.results180 Tryz.results150 Tryz.results229 Tryz.results152 Tryz.results257 Tryz.results258 Tryz.results219 Tryz.results137 Tryz.results69
structure Row where
  nn : Bool
  coefs : List Int
  const : Int
def Row.tr (r : Row) : Tr := .agg [.sl r.nn (r.coefs.map (Tr.int .i64)), .int .i64 r.const]
structure Upd where
  any : Bool
  expr : Row
def Upd.tr (u : Upd) : Tr := .agg [.bool u.any, .sl u.expr.nn (u.expr.coefs.map (Tr.int .i64)), .int .i64 u.expr.const]
structure Trans where
  from_ : Int
  to_ : Int
  gnn : Bool
  guard : List Row
  nnn : Bool
  next : List Upd
def Trans.tr (t : Trans) : Tr := .agg [.int .i64 t.from_, .int .i64 t.to_, .sl t.gnn (t.guard.map Row.tr), .sl t.nnn (t.next.map Upd.tr)]
structure Flow where
  vars : Int
  locs : Int
  start : Int
  tnn : Bool
  trans : List Trans
def Flow.cs (f : Flow) : List Tr := [.int .i64 f.vars, .int .i64 f.locs, .int .i64 f.start, .sl f.tnn (f.trans.map Trans.tr)]
def Flow.tr (f : Flow) : Tr := .agg f.cs
structure State where
  loc : Int
  vnn : Bool
  vals : List Int
def State.cs (s : State) : List Tr := [.int .i64 s.loc, .sl s.vnn (s.vals.map (Tr.int .i64))]
def State.tr (s : State) : Tr := .agg s.cs
attribute [go_sem] Row.tr Upd.tr Trans.tr Flow.tr Flow.cs State.tr State.cs
def smallB (k : Int) : Bool := decide (k ≥ -1048576) && decide (k ≤ 1048576)
def rightB (vars : Int) (r : Row) : Bool := !((r.coefs.length : Int) != vars) && (smallB r.const && r.coefs.all smallB)
def wordB (x : Int) : Bool := decide (x ≥ -274877906944) && decide (x ≤ 274877906944)
def updB (vars : Int) (u : Upd) : Bool := if u.any then !(decide ((u.expr.coefs.length : Int) > 0) || u.expr.const != 0) else rightB vars u.expr
def idxFrom {α : Type} (p : α → Bool) : Nat → List α → Int
  | _, [] => -1
  | k, x :: r => if p x then k else idxFrom p (k + 1) r
theorem idxFrom_any {α : Type} (p : α → Bool) : ∀ (l : List α) (k : Nat), decide (idxFrom p k l ≥ 0) = l.any p
  | [], k => by simp [idxFrom]
  | x :: r, k => by
    simp only [idxFrom, List.any_cons]
    by_cases hp : p x = true
    · simp [hp]
    · have := idxFrom_any p r (k + 1)
      simp_all
theorem indexInts_d (nn : Bool) (l : List Int) (g : FuncId) (caps : List Tr) (p : Int → Bool) (hp : ∀ x ∈ l, DCall Tryz.prog g (i64 x :: caps) (.bool (p x))) :
    DCall Tryz.prog 228 [.sl nn (l.map (Tr.int .i64)), .fn g caps] (i64 (idxFrom p 0 l)) := by
  refine dcall_mk orders Tryz.func228 rfl (by kernel_rfl) noMu (by kernel_rfl) rfl (fun hs => ?_)
  simp [sizedL, Tr.sized] at hs
  obtain ⟨hs1, _⟩ := hs
  repeat' (first
    | (with_reducible first | refine sA ?_ ?_ | refine sB ?_ ?_ | refine sC ?_ ?_ | refine sD ?_ ?_ | refine sE ?_ ?_ | refine sF ?_ ?_) <;> intro h
    | simp only [go_sem, *])
  refine loop_range l (fun k s' => idxFrom p 0 l = idxFrom p k (l.drop k)) rfl rfl (by first | assumption | omega) (by kernel_rfl) (fun _ _ _ _ hj => hj) (fun _ _ _ hj => hj) ?_ (fun k x s' hx hd hk hJ hix hfr G hG => ?_) (fun s' hJ hfr => ?_)
  · rfl
  · have c0 := hfr 0 (by kernel_rfl)
    have c1 := hfr 1 (by kernel_rfl)
    clear hfr
    simp only [go_sem] at c0 c1
    rw [hd, idxFrom] at hJ
    repeat' (first
      | (with_reducible first | refine sA ?_ ?_ | refine sB ?_ ?_ | refine sC ?_ ?_ | refine sD ?_ ?_ | refine sE ?_ ?_ | refine sF ?_ ?_) <;> intro h
      | refine clK_mk (hp x (List.mem_of_getElem? hx)) rfl ?_
      | simp only [go_sem, *])
    try any_goals (refine congrArg some ?_; first | rfl | (simp only [go_sem, idxFrom, *]; done) | (simp only [go_sem, idxFrom, *]; rfl) | (simp_all [idxFrom]; done))
    try any_goals (refine hG _ ?_; simp only [go_sem, idxFrom, *]; done)
  · simp only [List.drop_length, idxFrom] at hJ
    repeat' (first
      | (with_reducible first | refine sA ?_ ?_ | refine sB ?_ ?_ | refine sC ?_ ?_ | refine sD ?_ ?_ | refine sE ?_ ?_ | refine sF ?_ ?_) <;> intro h
      | simp only [go_sem, *])
theorem containsInts_d (nn : Bool) (l : List Int) (g : FuncId) (caps : List Tr) (p : Int → Bool) (hp : ∀ x ∈ l, DCall Tryz.prog g (i64 x :: caps) (.bool (p x))) :
    DCall Tryz.prog 149 [.sl nn (l.map (Tr.int .i64)), .fn g caps] (.bool (l.any p)) := by
  refine dcall_mk orders Tryz.func149 rfl (by kernel_rfl) noMu (by kernel_rfl) rfl (fun hs => ?_)
  rw [← idxFrom_any p l 0]
  repeat' (first
    | (with_reducible first | refine sA ?_ ?_ | refine sB ?_ ?_ | refine sC ?_ ?_ | refine sD ?_ ?_ | refine sE ?_ ?_ | refine sF ?_ ?_) <;> intro h
    | refine clK_mk (indexInts_d nn l g caps p hp) rfl ?_
    | simp only [go_sem, *])
theorem indexRows_d (nn : Bool) (l : List Row) (g : FuncId) (caps : List Tr) (p : Row → Bool) (hp : ∀ x ∈ l, DCall Tryz.prog g (x.tr :: caps) (.bool (p x))) :
    DCall Tryz.prog 180 [.sl nn (l.map Row.tr), .fn g caps] (i64 (idxFrom p 0 l)) := by
  refine dcall_mk orders Tryz.func180 rfl (by kernel_rfl) noMu (by kernel_rfl) rfl (fun hs => ?_)
  simp [sizedL, Tr.sized] at hs
  obtain ⟨⟨hs1, _⟩, _⟩ := hs
  repeat' (first
    | (with_reducible first | refine sA ?_ ?_ | refine sB ?_ ?_ | refine sC ?_ ?_ | refine sD ?_ ?_ | refine sE ?_ ?_ | refine sF ?_ ?_) <;> intro h
    | simp only [go_sem, *])
  refine loop_range l (fun k s' => idxFrom p 0 l = idxFrom p k (l.drop k)) rfl rfl (by first | assumption | omega) (by kernel_rfl) (fun _ _ _ _ hj => hj) (fun _ _ _ hj => hj) ?_ (fun k x s' hx hd hk hJ hix hfr G hG => ?_) (fun s' hJ hfr => ?_)
  · rfl
  · have c0 := hfr 0 (by kernel_rfl)
    have c1 := hfr 1 (by kernel_rfl)
    clear hfr
    simp only [go_sem] at c0 c1
    rw [hd, idxFrom] at hJ
    repeat' (first
      | (with_reducible first | refine sA ?_ ?_ | refine sB ?_ ?_ | refine sC ?_ ?_ | refine sD ?_ ?_ | refine sE ?_ ?_ | refine sF ?_ ?_) <;> intro h
      | refine clK_mk (hp x (List.mem_of_getElem? hx)) rfl ?_
      | simp only [go_sem, *])
    try any_goals (refine congrArg some ?_; first | rfl | (simp only [go_sem, idxFrom, *]; done) | (simp only [go_sem, idxFrom, *]; rfl) | (simp_all [idxFrom]; done))
    try any_goals (refine hG _ ?_; simp only [go_sem, idxFrom, *]; done)
  · simp only [List.drop_length, idxFrom] at hJ
    repeat' (first
      | (with_reducible first | refine sA ?_ ?_ | refine sB ?_ ?_ | refine sC ?_ ?_ | refine sD ?_ ?_ | refine sE ?_ ?_ | refine sF ?_ ?_) <;> intro h
      | simp only [go_sem, *])
theorem containsRows_d (nn : Bool) (l : List Row) (g : FuncId) (caps : List Tr) (p : Row → Bool) (hp : ∀ x ∈ l, DCall Tryz.prog g (x.tr :: caps) (.bool (p x))) :
    DCall Tryz.prog 97 [.sl nn (l.map Row.tr), .fn g caps] (.bool (l.any p)) := by
  refine dcall_mk orders Tryz.func97 rfl (by kernel_rfl) noMu (by kernel_rfl) rfl (fun hs => ?_)
  rw [← idxFrom_any p l 0]
  repeat' (first
    | (with_reducible first | refine sA ?_ ?_ | refine sB ?_ ?_ | refine sC ?_ ?_ | refine sD ?_ ?_ | refine sE ?_ ?_ | refine sF ?_ ?_) <;> intro h
    | refine clK_mk (indexRows_d nn l g caps p hp) rfl ?_
    | simp only [go_sem, *])
theorem far_d (k : Int) : DCall Tryz.prog 229 [i64 k] (.bool (!smallB k)) := by
  rw [show (!smallB k) = (decide (k < -1048576) || decide (k > 1048576)) by rw [Bool.eq_iff_iff]; simp [smallB]]
  refine dcall_mk orders Tryz.func229 rfl (by kernel_rfl) noMu (by kernel_rfl) rfl (fun hs => ?_)
  repeat' (first
    | (with_reducible first | refine sA ?_ ?_ | refine sB ?_ ?_ | refine sC ?_ ?_ | refine sD ?_ ?_ | refine sE ?_ ?_ | refine sF ?_ ?_) <;> intro h
    | simp only [go_sem, *])
theorem any_not {α : Type} (p : α → Bool) (l : List α) : l.any (fun x => !p x) = !l.all p := by
  induction l with | nil => rfl | cons a l ih => simp [ih]
theorem isRow_d (vars : Int) (r : Row) : DCall Tryz.prog 152 [i64 vars, r.tr] (.bool (rightB vars r)) := by
  refine dcall_mk orders Tryz.func152 rfl (by kernel_rfl) noMu (by kernel_rfl) rfl (fun hs => ?_)
  have hc := containsInts_d r.nn r.coefs 229 [] (fun x => !smallB x) (fun x _ => far_d x)
  repeat' (first
    | (with_reducible first | refine sA ?_ ?_ | refine sB ?_ ?_ | refine sC ?_ ?_ | refine sD ?_ ?_ | refine sE ?_ ?_ | refine sF ?_ ?_) <;> intro h
    | refine clK_mk (far_d _) rfl ?_
    | refine clK_mk (hc) rfl ?_
    | simp only [go_sem, *])
  all_goals simp_all [rightB, any_not]
end YtajgclnahfmfmaaGreat
end Go.Vm
end
section
set_option linter.unusedSimpArgs false
namespace Go.Vm
open Go
section
variable {P : Program} {w : World}
inductive Typed (P : Program) : TypeId → List Tr → Prop where
  | bool {t : TypeId} {b : Bool} (h : P.underlying t = some .bool) : Typed P t [.bool b]
  | int {t : TypeId} {k : IntKind} {n : Int} (h : P.underlying t = some (.int k)) (hw : (Lit.int k n).wf = true) : Typed P t [.int k n]
  | str {t : TypeId} {s : ByteArray} (h : P.underlying t = some .string) (hs : s.size ≤ maxLen) : Typed P t [.str s]
  | snil {t e : TypeId} (h : P.underlying t = some (.slice e)) : Typed P t [.sl false []]
  | sl {t e : TypeId} {l : List Tr} (h : P.underlying t = some (.slice e)) (hel : ∀ x ∈ l, Typed P e x.cells) (hag : ∀ x ∈ l, aggB P e = some true → x = .agg x.cells) (hln : ∀ x ∈ l, x.cells.length = P.cellsOf e) (hna : ∀ x ∈ l, aggB P e = some false → x.cells = [x]) : Typed P t [.sl true l]
  | struct {t : TypeId} {fs : Array Field} {cs : List Tr} (h : P.underlying t = some (.struct fs)) (hl : cs.length = P.cellsOf t) (hf : ∀ f ∈ fs.toList, Typed P f.type ((cs.drop f.offset).take (P.cellsOf f.type))) : Typed P t cs
def laid (P : Program) : Nat → List Field → Option Nat
  | o, [] => some o
  | o, f :: r => if f.offset = o then laid P (o + P.cellsOf f.type) r else none
def plainT (P : Program) : Nat → TypeId → Bool
  | 0, _ => false
  | n + 1, t => match P.underlying t with
    | some .bool | some (.int _) | some .string => P.cellsOf t == 1 && aggB P t == some false
    | some (.slice e) => P.cellsOf t == 1 && aggB P t == some false && Nat.blt 0 (P.cellsOf e) && plainT P n e
    | some (.struct fs) => aggB P t == some true && laid P 0 fs.toList == some (P.cellsOf t) && fs.toList.all fun f => plainT P n f.type
    | _ => false
def CellsR (w : World) (xs : List Tr) (cs : List Value) : Prop := xs.length = cs.length ∧ ∀ (k : Nat) x, xs[k]? = some x → Reads w (fun _ => False) x (cs.getD k undef) ∧ x.cells = [x] ∧ (cs.getD k undef).oneCell' = true
theorem CellsR.one {x : Tr} {v : Value} (hr : Reads w (fun _ => False) x v) (hx : x.cells = [x]) (hv : v.oneCell' = true) : CellsR w [x] [v] := by
  refine ⟨rfl, fun k y hk => ?_⟩
  cases k with
  | zero => simp at hk; subst hk; exact ⟨hr, hx, hv⟩
  | succ k => simp at hk
theorem flat_at {l : List Tr} {esz : Nat} (hpos : 0 < esz) (he : ∀ x ∈ l, x.cells.length = esz) {k : Nat} {x : Tr} (hk : (flat l)[k]? = some x) : ∃ y, l[k / esz]? = some y ∧ y.cells[k % esz]? = some x := by
  have hlt := (List.getElem?_eq_some_iff.1 hk).1
  rw [flat_length l esz he] at hlt
  have hi : k / esz < l.length := (Nat.div_lt_iff_lt_mul hpos).2 hlt
  refine ⟨l[k / esz], List.getElem?_eq_getElem hi, ?_⟩
  have hy := he _ (List.getElem_mem hi)
  have hj : k % esz < (l[k / esz]).cells.length := by rw [hy]; exact Nat.mod_lt _ hpos
  have := flat_get l esz he (k / esz) _ (List.getElem?_eq_getElem hi) (k % esz) _ (List.getElem?_eq_getElem hj)
  rw [Nat.mul_comm, Nat.div_add_mod] at this
  rw [List.getElem?_eq_getElem hj]
  rw [this] at hk; exact hk
theorem CellsR.part {xs : List Tr} {cs : List Value} (h : CellsR w xs cs) (o n : Nat) : CellsR w ((xs.drop o).take n) ((cs.drop o).take n) := by
  refine ⟨by simp [h.1], fun k x hk => ?_⟩
  rw [List.getElem?_take] at hk
  split at hk
  · rename_i hkn
    rw [List.getElem?_drop] at hk
    have := h.2 _ x hk
    have e : ((cs.drop o).take n).getD k undef = cs.getD (o + k) undef := by simp [List.getD, List.getElem?_take, hkn]
    rw [e]; exact this
  · cases hk
variable {H : Type} {enc : TypeId × Value → H} {base : Nat} {spare : Nat → Bool} {held : Bool}
theorem fields_typed {R : TypeId → List Value → Prop} (hR : ∀ t cs, R t cs → ∃ xs, Typed P t xs ∧ CellsR w xs cs) {cs : List Value} : ∀ (fs : List Field) (o n : Nat), laid P o fs = some n → o ≤ cs.length → n = cs.length →
    (∀ f ∈ fs, R f.type ((cs.drop f.offset).take (P.cellsOf f.type))) → ∃ zs, CellsR w zs (cs.drop o) ∧ ∀ f ∈ fs, o ≤ f.offset ∧ Typed P f.type ((zs.drop (f.offset - o)).take (P.cellsOf f.type))
  | [], o, n, hl, ho, hn, _ => by
    simp only [laid, Option.some.injEq] at hl
    refine ⟨[], ?_, by simp⟩
    subst hl
    rw [hn, List.drop_length]
    exact ⟨rfl, fun k x hk => by simp at hk⟩
  | f :: r, o, n, hl, ho, hn, hf => by
    unfold laid at hl
    split at hl
    · rename_i hoff
      have hmono : ∀ (fs : List Field) (o n : Nat), laid P o fs = some n → o ≤ n := by
        intro fs
        induction fs with
        | nil => intro o n h; simp [laid] at h; omega
        | cons g r ih =>
          intro o n h
          unfold laid at h
          split at h
          · have := ih _ _ h; omega
          · cases h
      have hle := hmono _ _ _ hl
      obtain ⟨xs, h1, h2⟩ := hR _ _ (hf f (by simp))
      obtain ⟨zs, h3, h4⟩ := fields_typed hR r (o + P.cellsOf f.type) n hl (by omega) hn (fun g hg => hf g (by simp [hg]))
      have hxl : xs.length = P.cellsOf f.type := by rw [h2.1]; simp; omega
      refine ⟨xs ++ zs, ⟨?_, ?_⟩, ?_⟩
      · rw [List.length_append, hxl, h3.1]; simp; omega
      · intro k x hk
        rw [List.getElem?_append] at hk
        split at hk
        · rename_i hlt
          have := h2.2 k x hk
          have e : ((cs.drop f.offset).take (P.cellsOf f.type)).getD k undef = (cs.drop o).getD k undef := by
            simp [List.getD, List.getElem?_take, hoff, show k < P.cellsOf f.type by omega]
          rw [e] at this; exact this
        · rename_i hge
          have := h3.2 _ x hk
          have e : (cs.drop (o + P.cellsOf f.type)).getD (k - xs.length) undef = (cs.drop o).getD k undef := by
            simp only [List.getD, List.getElem?_drop]; congr 2; omega
          rw [e] at this; exact this
      · intro g hg
        rcases List.mem_cons.1 hg with rfl | hg
        · refine ⟨by omega, ?_⟩
          rw [hoff, Nat.sub_self, List.drop_zero, List.take_left' hxl]
          exact h1
        · obtain ⟨g1, g2⟩ := h4 g hg
          refine ⟨by omega, ?_⟩
          have e : (xs ++ zs).drop (g.offset - o) = zs.drop (g.offset - (o + P.cellsOf f.type)) := by
            rw [List.drop_append, List.drop_of_length_le (by omega), List.nil_append]
            congr 1; omega
          rw [e]; exact g2
    · cases hl
theorem plain_ag {m : Nat} {e : TypeId} (h : plainT P m e = true) : aggB P e = some true ∨ (aggB P e = some false ∧ P.cellsOf e = 1) := by
  cases m with
  | zero => simp [plainT] at h
  | succ m =>
    unfold plainT at h
    split at h <;> simp_all
def mkEl (ag : Option Bool) (xs : List Tr) : Tr := match ag with | some true => .agg xs | _ => xs.headD default
theorem mkEl_cells {ag : Option Bool} {xs : List Tr} {cs : List Value} (h : CellsR w xs cs) (ha : ag = some true ∨ (ag = some false ∧ xs.length = 1)) : (mkEl ag xs).cells = xs := by
  rcases ha with rfl | ⟨rfl, hl⟩
  · rfl
  · obtain ⟨x, rfl⟩ := List.length_eq_one_iff.1 hl
    exact (h.2 0 x rfl).2.1
theorem trod_typed : ∀ (fuel m : Nat) (t : TypeId) (cs : List Value) (d : DataW H) (ps : List MemPlace), DataW.trod enc P w base spare held fuel t cs = some (d, ps) → plainT P m t = true → ∃ xs, Typed P t xs ∧ CellsR w xs cs := by
  intro fuel
  induction fuel with
  | zero => intro m t cs d ps h; simp [DataW.trod] at h
  | succ fuel ih =>
    intro m t cs d ps h hp
    cases m with
    | zero => simp [plainT] at hp
    | succ m =>
      unfold plainT at hp
      unfold DataW.trod at h
      split at hp
      · rename_i hu
        rw [hu] at h
        split at h <;> simp_all
        rename_i b
        exact ⟨[.bool b], .bool hu, .one (.bool b) rfl rfl⟩
      · rename_i k hu
        rw [hu] at h
        split at h <;> simp_all
        obtain ⟨⟨rfl, hw⟩, _⟩ := h
        exact ⟨_, .int hu hw, .one (.int _ _) rfl rfl⟩
      · rename_i hu
        rw [hu] at h
        split at h <;> simp_all
        rename_i b
        exact ⟨[.str b], .str hu h.1, .one (.str b) rfl rfl⟩
      · rename_i e hu
        rw [hu] at h
        simp only [Bool.and_eq_true, beq_iff_eq] at hp
        obtain ⟨⟨⟨_, _⟩, hpos⟩, hpe⟩ := hp
        have hpos' : 0 < P.cellsOf e := by simp [Nat.blt] at hpos; omega
        split at h <;> try (simp_all; done)
        · rename_i hu2; injection hu2 with hu2; injection hu2 with hu2; subst hu2
          exact ⟨_, .snil hu, .one .nil rfl rfl⟩
        · rename_i e' a len cap hu2
          injection hu2 with hu2; injection hu2 with hu2; subst hu2
          simp only at h
          split at h <;> try (cases h; done)
          rename_i hc
          obtain ⟨hb, hlc, hcm⟩ := hc
          cases hmm : (List.range len).mapM (fun i => (w.cells? base (a.add (i * P.cellsOf e)) (P.cellsOf e)).bind (DataW.trod enc P w base spare held fuel e)) with
          | none => rw [hmm] at h; cases h
          | some ys =>
            clear h
            have hyl := mapM_some_length hmm
            have each : ∀ i, i < len → ∃ xs, ∃ ci, w.cells? base (a.add (i * P.cellsOf e)) (P.cellsOf e) = some ci ∧ Typed P e xs ∧ CellsR w xs ci := by
              intro i hi
              have h1 := mapM_some_get hmm i i (by simp [hi])
              have h2 : ys[i]? = some (ys[i]'(by rw [hyl]; simpa using hi)) := List.getElem?_eq_getElem _
              rw [h2] at h1
              cases hcc : w.cells? base (a.add (i * P.cellsOf e)) (P.cellsOf e) with
              | none => rw [hcc] at h1; cases h1
              | some ci =>
                rw [hcc] at h1
                simp only [Option.bind_some] at h1
                obtain ⟨xs, g1, g2⟩ := ih m e ci _ _ (by rw [h1]) hpe
                exact ⟨xs, ci, rfl, g1, g2⟩
            obtain ⟨X, hX⟩ : ∃ X : Nat → List Tr, ∀ i, i < len → ∃ ci, w.cells? base (a.add (i * P.cellsOf e)) (P.cellsOf e) = some ci ∧ Typed P e (X i) ∧ CellsR w (X i) ci :=
              ⟨fun i => if h : i < len then Classical.choose (each i h) else [], fun i h => by simp only [dif_pos h]; exact Classical.choose_spec (each i h)⟩
            have hXl : ∀ i, i < len → (X i).length = P.cellsOf e := fun i h => by
              obtain ⟨ci, h1, _, h3⟩ := hX i h
              rw [h3.1]; exact (World.cells?_some h1).2.1
            have hag := plain_ag hpe
            have hcell : ∀ i, i < len → (mkEl (aggB P e) (X i)).cells = X i := fun i h => by
              obtain ⟨ci, h1, _, h3⟩ := hX i h
              refine mkEl_cells h3 (hag.imp id fun h4 => ⟨h4.1, by rw [hXl i h]; exact h4.2⟩)
            generalize hldef : (List.range len).map (fun i => mkEl (aggB P e) (X i)) = l
            have hl : l.length = len := by rw [← hldef]; simp
            have hget : ∀ (i : Nat) y, l[i]? = some y → i < len ∧ y = mkEl (aggB P e) (X i) := by
              intro i y hy
              have hi := (List.getElem?_eq_some_iff.1 hy).1
              rw [hl] at hi
              rw [← hldef, List.getElem?_map, List.getElem?_range hi] at hy
              simp only [Option.map_some, Option.some.injEq] at hy
              exact ⟨hi, hy.symm⟩
            have hmem : ∀ y ∈ l, ∃ i, i < len ∧ y = mkEl (aggB P e) (X i) := by
              intro y hy
              obtain ⟨i, hi⟩ := List.mem_iff_getElem?.1 hy
              exact ⟨i, hget i y hi⟩
            have hlen : ∀ x ∈ l, x.cells.length = P.cellsOf e := by
              intro y hy
              obtain ⟨i, hi, rfl⟩ := hmem y hy
              rw [hcell i hi, hXl i hi]
            have hspot : flat l ≠ [] → a.spot = none := by
              intro hne
              have hpl : 0 < len := by
                rcases Nat.eq_zero_or_pos len with h0 | h0
                · rw [h0] at hl; have := List.eq_nil_of_length_eq_zero hl; subst this; exact absurd rfl hne
                · exact h0
              obtain ⟨ci, h1, _, _⟩ := hX 0 hpl
              obtain ⟨_, h5, h6⟩ := World.cells?_some h1
              have h7 := h6 0 hpos'
              rw [List.getElem?_eq_getElem (by omega : 0 < ci.length)] at h7
              have := World.cell?_spot h7
              simpa [Addr.add] using this
            refine ⟨[.sl true l], .sl hu (fun y hy => ?_) (fun y hy hag2 => ?_) hlen (fun y hy hag2 => ?_), .one ?_ rfl rfl⟩
            · obtain ⟨i, hi, rfl⟩ := hmem y hy
              rw [hcell i hi]
              obtain ⟨ci, _, h2, _⟩ := hX i hi
              exact h2
            · obtain ⟨i, hi, rfl⟩ := hmem y hy
              rw [hag2]; rfl
            · obtain ⟨i, hi, rfl⟩ := hmem y hy
              obtain ⟨ci, _, _, h3⟩ := hX i hi
              have hx1 : (X i).length = 1 := by
                rcases hag with h9 | h9
                · rw [hag2] at h9; cases h9
                · rw [hXl i hi]; exact h9.2
              obtain ⟨x, hx⟩ := List.length_eq_one_iff.1 hx1
              rw [hx] at h3 ⊢
              rw [hag2]
              exact (h3.2 0 x rfl).2.1
            · have key : ∀ (k : Nat) x, (flat l)[k]? = some x → ∃ v, w.cell? (a.add k) = some v ∧ Reads w (fun _ => False) x v ∧ v.oneCell' = true := by
                intro k x hk
                have hs := hspot (by intro e0; rw [e0] at hk; simp at hk)
                obtain ⟨y, hy, hyk⟩ := flat_at hpos' hlen hk
                obtain ⟨hi, rfl⟩ := hget _ y hy
                rw [hcell _ hi] at hyk
                obtain ⟨ci, h1, _, h3⟩ := hX _ hi
                obtain ⟨_, h5, h6⟩ := World.cells?_some h1
                have hj : k % P.cellsOf e < P.cellsOf e := Nat.mod_lt _ hpos'
                have h7 := h6 _ hj
                rw [add_add a hs, Nat.mul_comm, Nat.div_add_mod] at h7
                have h8 := h3.2 _ x hyk
                refine ⟨ci.getD (k % P.cellsOf e) undef, ?_, h8.1, h8.2.2⟩
                rw [h7]; simp [List.getD, List.getElem?_eq_getElem (by omega : k % P.cellsOf e < ci.length)]
              have := Reads.sl (w := w) (L := fun _ => False) (l := l) (a := a) (cap := cap) (esz := P.cellsOf e) (vals := fun k => (w.cell? (a.add k)).getD undef) hspot (by omega) hcm hlen
                (fun k x hk => by obtain ⟨v, h1, h2, h3⟩ := key k x hk; rw [h1]; exact ⟨id, rfl, h3⟩) (fun k x hk => by obtain ⟨v, h1, h2, h3⟩ := key k x hk; rw [h1]; exact h2)
              rw [hl] at this
              exact this
      · rename_i fs hu
        rw [hu] at h
        simp only [Bool.and_eq_true, beq_iff_eq, List.all_eq_true] at hp
        obtain ⟨⟨hag, hlaid⟩, hall⟩ := hp
        have h : (if cs.length = P.cellsOf t then (fs.toList.mapM fun f => DataW.trod enc P w base spare held fuel f.type ((cs.drop f.offset).take (P.cellsOf f.type))).map fun xs => (DataW.agg (xs.map (·.1)), xs.flatMap (·.2)) else none) = some (d, ps) := by
          split at h <;> simp_all
        split at h <;> try (cases h; done)
        rename_i hcl
        cases hmm : fs.toList.mapM (fun f => DataW.trod enc P w base spare held fuel f.type ((cs.drop f.offset).take (P.cellsOf f.type))) with
        | none => rw [hmm] at h; cases h
        | some ys =>
          have hf : ∀ f ∈ fs.toList, ∃ xs, Typed P f.type xs ∧ CellsR w xs ((cs.drop f.offset).take (P.cellsOf f.type)) := by
            intro f hfm
            obtain ⟨i, hi⟩ := List.mem_iff_getElem?.1 hfm
            have h1 := mapM_some_get hmm i f hi
            have hlt : i < ys.length := by rw [mapM_some_length hmm]; exact (List.getElem?_eq_some_iff.1 hi).1
            rw [List.getElem?_eq_getElem hlt] at h1
            exact ih m f.type _ _ _ (by rw [h1]) (hall f hfm)
          obtain ⟨zs, g1, g2⟩ := fields_typed (P := P) (w := w) (R := fun t c => ∃ xs, Typed P t xs ∧ CellsR w xs c) (fun _ _ h => h) (cs := cs) fs.toList 0 _ hlaid (Nat.zero_le _) hcl.symm hf
          refine ⟨zs, .struct hu (by rw [g1.1]; simpa using hcl) (fun f hfm => ?_), by simpa using g1⟩
          simpa using (g2 f hfm).2
      · cases hp
theorem arg_agg {m : Nat} {t : TypeId} {vs : Array Value} {d : DataW H} {ps : List MemPlace} (h : DataW.Trod enc P w base spare held t (.agg vs) d ps) (hp : plainT P m t = true) : ∃ xs, Typed P t xs ∧ Reads w (fun _ => False) (.agg xs) (.agg vs) := by
  obtain ⟨fuel, hf⟩ := h
  obtain ⟨xs, h1, h2⟩ := trod_typed fuel m t _ d ps hf hp
  refine ⟨xs, h1, .agg (by rw [h2.1]; simp [Value.cells]) fun i x hx => ?_⟩
  have := (h2.2 i x hx).1
  have e : ((Value.agg vs).cells.toList).getD i undef = vs.getD i undef := by simp [Value.cells, List.getD, Array.getD]; split <;> simp_all
  rw [e] at this; exact this
theorem arg_one {m : Nat} {t : TypeId} {v : Value} {d : DataW H} {ps : List MemPlace} (h : DataW.Trod enc P w base spare held t v d ps) (hp : plainT P m t = true) (hv : v.cells = #[v]) : ∃ x, Typed P t [x] ∧ Reads w (fun _ => False) x v := by
  obtain ⟨fuel, hf⟩ := h
  obtain ⟨xs, h1, h2⟩ := trod_typed fuel m t _ d ps hf hp
  rw [hv] at h2
  obtain ⟨x, rfl⟩ := List.length_eq_one_iff.1 (by rw [h2.1]; rfl)
  exact ⟨x, h1, by simpa using (h2.2 0 x rfl).1⟩
end
end Go.Vm
end
section
namespace Go.Vm
open Go
section
variable {P : Program} {mu : Nat → Bool} {F : Ex → St → Prop} {r : List Item} {s : St} {h : Hp}
@[go_sem] theorem un_t (x : Tr) : (PV.t x).un = x.pv := nrfl rfl
@[go_sem] theorem initSlI_app (args : List PV) (t : Nat) : initSlI args t = (match args[t]? with | some x => x.un | none => .undef) := nrfl rfl
@[go_sem] theorem initStI_sl (args : List PV) (h : Hp) : (initStI args h).sl = initSlI args := nrfl rfl
@[go_sem] theorem initStI_hp (args : List PV) (h : Hp) : (initStI args h).hp = h := nrfl rfl
def endX (x : Option PV) (Q : PV → Hp → Prop) (h : Hp) : Prop := match x with | some r => Q r h | none => False
@[go_sem] theorem endX_some (x : PV) (Q : PV → Hp → Prop) (h : Hp) : endX (some x) Q h = Q x h := nrfl rfl
theorem endX_eq (x : Option PV) (Q : PV → Hp → Prop) (h : Hp) : (∃ r, x = some r ∧ Q r h) = endX x Q h := by
  cases x <;> simp [endX]
@[go_sem] theorem endI_ret (fn : Func) (Q : PV → Hp → Prop) : endI P fn Q .ret s = endX (resI P s fn.results.toList) Q s.hp := endX_eq _ _ _
theorem resI_eq (l : List ResultVar) : resI P s l = (match mapO (resPV P s) l with | some [x] => some x | some ts => some (mkTup ts) | none => none) := rfl
@[go_sem] theorem resI_one (a : ResultVar) : resI P s [a] = resPV P s a := by
  rw [resI_eq]; simp only [mapO]; cases resPV P s a <;> rfl
@[go_sem] theorem resPV_tmp (t : Tmp) : resPV P s (.tmp t) = some (s.sl t) := nrfl rfl
theorem extract_mkTup (l : List PV) (i : Nat) : extractPV (mkTup l) i = l[i]? := by
  unfold mkTup extractPV
  cases h : trees l with
  | none => rfl
  | some ts =>
    have := trees_get h; subst this
    simp only [List.getElem?_map]
    cases ts[i]? <;> rfl
attribute [go_sem ↓] extract_mkTup
theorem icall_sized {g : FuncId} {args : List PV} {Q : PV → Hp → Prop} (he : Enters P g) (hd : (∀ x, PV.t x ∈ args → x.sized = true) → (∀ id o, hget h id = some o → o.len ≤ 9223372036854775807) → ICall P g args h Q) : ICall P g args h Q := by
  refine ⟨he, fun w A μ vs hr hl hv => ?_⟩
  refine (hd (fun x hx => ?_) (fun id o ho => ?_)).2 w A μ vs hr hl hv
  · obtain ⟨i, hi⟩ := List.mem_iff_getElem?.1 hx
    exact (hv i _ hi).tree.sized
  · by_cases hz : o.esz = 0
    · rw [hr.len0 ho hz]; decide
    obtain ⟨cur, cap, h1, h2, h3, h4, h5, h6, h7, _⟩ := hr.obj id o ho hz
    exact Nat.le_trans h6 (by simpa [maxLen] using h7)
theorem icall_mk {g : FuncId} {fn : Func} {c : Code} {args : List PV} {Q : PV → Hp → Prop} (hm : P.follows .mixedOrders = true) (hf : P.funcs[g]? = some fn) (hb : fn.body = some c) (hname : (fn.name == "runtime.NumGoroutine") = false)
    (mu : Nat → Bool) (hok : codeOK mu fn.ntmps c = true) (hn : Nat.ble args.length fn.ntmps = true)
    (hw : (∀ x, PV.t x ∈ args → x.sized = true) → (∀ id o, hget h id = some o → o.len ≤ 9223372036854775807) → kont P mu (endI P fn Q) [.code c] .normal (initStI args h)) : ICall P g args h Q :=
  icall_sized ⟨fn, hf, hname, by simp [hb]⟩ fun hs ho => icall_of_wp hm hf hb hname mu hok (Nat.le_of_ble_eq_true hn) (by rw [kont_start]; exact hw hs ho)
end
def Same (h h' : Hp) (ids : List Id) : Prop := ∀ id o, id ∉ ids → hget h id = some o → hget h' id = some o
theorem Same.refl (h : Hp) (ids : List Id) : Same h h ids := fun _ _ _ ho => ho
theorem Same.trans {h h' h'' : Hp} {ids ids' : List Id} (a : Same h h' ids) (b : Same h' h'' ids') : Same h h'' (ids ++ ids') := fun id o hn ho => b id o (fun e => hn (by simp [e])) (a id o (fun e => hn (by simp [e])) ho)
theorem Same.mono {h h' : Hp} {ids ids' : List Id} (a : Same h h' ids) (hs : ∀ i ∈ ids, i ∈ ids') : Same h h' ids' := fun id o hn ho => a id o (fun e => hn (hs _ e)) ho
theorem Same.set (h : Hp) (id : Id) (o : Obj) : Same h (hset h id o) [id] := fun i o' hn ho => by
  rw [hget_hset, if_neg (by simpa using hn)]; exact ho
theorem Same.new (h : Hp) (d : Nat) (o : Obj) : Same h (hnew h d o) [] := fun i o' _ ho => by
  rw [hget_hnew, if_neg]
  · exact ho
  · intro e; rw [e, hget_hnext] at ho; cases ho
end Go.Vm
namespace Go.Vm
open Go
theorem reach_row {h : Hp} {id : Id} {l : List Tr} {esz n m : Nat} {e : TypeId} {ag lv : Bool} (k : Nat) (hg : hget h id = some ⟨l.map .t, esz, n, e, ag, lv⟩) : reach h (k + 1) (.rf id m) = [id] := by
  simp only [reach, hg]
  rw [flat_reach]
theorem frz_other {h : Hp} {ids : List Id} {id : Id} {o : Obj} (hg : hget h id = some o) (hn : ids.contains id = false) : hget (frz h ids) id = some o := by
  rw [hget_frz, hg]
  simp only [Option.map_some, hn, Bool.not_false, Bool.and_true]
theorem frz_row {h : Hp} {id id' : Id} {l : List Tr} {esz n m : Nat} {e : TypeId} {ag lv : Bool} {o : Obj} (hg : hget h id = some ⟨l.map .t, esz, n, e, ag, lv⟩) (ho : hget h id' = some o) (hne : (id == id') = false) :
    hget (frz h (reach h dep (.rf id m) ++ [])) id' = some o := by
  refine frz_other ho ?_
  rw [show dep = 5 + 1 from rfl, reach_row 5 hg]
  have : (id' == id) = false := by
    rw [beq_eq_false_iff_ne] at hne ⊢
    exact fun e => hne e.symm
  simp [this]
  intro e; simp [e] at this
end Go.Vm
end
section
namespace Go.Whole
open Go
def B : Nat := 4294967296
theorem B_eq : B = 4294967296 := rfl
theorem B_pos : 0 < B := by decide
def val : List Nat → Nat
  | [] => 0
  | d :: r => d + B * val r
def strip : List Nat → List Nat
  | [] => []
  | d :: r => if strip r = [] then (if d = 0 then [] else [d]) else d :: strip r
def okD (l : List Nat) : Prop := ∀ d ∈ l, d < B
def digs (n : Nat) : List Nat := if n = 0 then [] else n % B :: digs (n / B)
termination_by n
decreasing_by exact Nat.div_lt_self (by omega) (by decide)
theorem digs_zero : digs 0 = [] := by unfold digs; rfl
theorem digs_pos {n : Nat} (h : n ≠ 0) : digs n = n % B :: digs (n / B) := by
  conv => lhs; unfold digs
  rw [if_neg h]
theorem okD_cons {d : Nat} {l : List Nat} : okD (d :: l) ↔ d < B ∧ okD l := by simp [okD]
theorem okD_nil : okD [] := by simp [okD]
theorem okD_take {l : List Nat} (h : okD l) (n : Nat) : okD (l.take n) := fun d hd => h d (List.mem_of_mem_take hd)
theorem okD_drop {l : List Nat} (h : okD l) (n : Nat) : okD (l.drop n) := fun d hd => h d (List.mem_of_mem_drop hd)
theorem okD_tail {l : List Nat} (h : okD l) : okD l.tail := by cases l with | nil => exact h | cons => exact (okD_cons.1 h).2
theorem okD_head {l : List Nat} (h : okD l) : l.headD 0 < B := by cases l with | nil => exact B_pos | cons => exact (okD_cons.1 h).1
theorem digs_ok : ∀ n, okD (digs n) := by
  intro n
  induction n using Nat.strongRecOn with
  | ind n ih =>
    by_cases h : n = 0
    · subst h; rw [digs_zero]; exact okD_nil
    · rw [digs_pos h, okD_cons]
      exact ⟨Nat.mod_lt _ B_pos, ih _ (Nat.div_lt_self (by omega) (by decide))⟩
theorem val_digs : ∀ n, val (digs n) = n := by
  intro n
  induction n using Nat.strongRecOn with
  | ind n ih =>
    by_cases h : n = 0
    · subst h; rw [digs_zero]; rfl
    · rw [digs_pos h]
      simp only [val, ih _ (Nat.div_lt_self (by omega : 0 < n) (by decide : 1 < B))]
      exact Nat.mod_add_div n B
theorem digs_nil {n : Nat} : digs n = [] ↔ n = 0 := by
  constructor
  · intro h; have := val_digs n; rw [h] at this; exact this.symm
  · intro h; subst h; exact digs_zero
theorem strip_digs : ∀ {l : List Nat}, okD l → strip l = digs (val l)
  | [], _ => by simp [strip, val, digs_zero]
  | d :: r, h => by
    have hd := (okD_cons.1 h).1
    have ih := strip_digs (okD_cons.1 h).2
    simp only [strip, ih, digs_nil, val]
    by_cases hr : val r = 0
    · rw [if_pos hr, hr, Nat.mul_zero, Nat.add_zero]
      by_cases h0 : d = 0
      · rw [if_pos h0, h0, digs_zero]
      · rw [if_neg h0, digs_pos h0, Nat.mod_eq_of_lt hd, Nat.div_eq_of_lt hd, digs_zero]
    · rw [if_neg hr]
      have hpos : d + B * val r ≠ 0 := by
        have := Nat.mul_pos B_pos (Nat.pos_of_ne_zero hr); omega
      rw [digs_pos hpos, Nat.add_mul_mod_self_left, Nat.mod_eq_of_lt hd, Nat.add_mul_div_left _ _ B_pos, Nat.div_eq_of_lt hd, Nat.zero_add]
theorem val_append : ∀ (a b : List Nat), val (a ++ b) = val a + B ^ a.length * val b
  | [], b => by simp [val]
  | d :: a, b => by
    simp only [List.cons_append, val, val_append a b, List.length_cons, Nat.pow_succ, Nat.mul_add]
    rw [Nat.mul_comm (B ^ a.length) B, Nat.mul_assoc]; omega
theorem val_lt : ∀ {l : List Nat}, okD l → val l < B ^ l.length
  | [], _ => by simp [val]
  | d :: r, h => by
    have h1 := (okD_cons.1 h).1
    have h2 := val_lt (okD_cons.1 h).2
    simp only [val, List.length_cons, Nat.pow_succ]
    have : B * val r + B ≤ B ^ r.length * B := by
      rw [Nat.mul_comm (B ^ r.length), ← Nat.mul_succ]
      exact Nat.mul_le_mul_left _ h2
    omega
theorem val_zeros : ∀ n, val (List.replicate n 0) = 0
  | 0 => rfl
  | n + 1 => by simp [List.replicate_succ, val, val_zeros n]
theorem okD_zeros (n : Nat) : okD (List.replicate n 0) := fun d hd => by rw [(List.mem_replicate.1 hd).2]; exact B_pos
theorem digs_length_le {n k : Nat} (h : n < B ^ k) : (digs n).length ≤ k := by
  induction k generalizing n with
  | zero => have : n = 0 := by simpa using h
            subst this; simp [digs_zero]
  | succ k ih =>
    by_cases h0 : n = 0
    · subst h0; simp [digs_zero]
    · rw [digs_pos h0, List.length_cons]
      have : n / B < B ^ k := by
        rw [Nat.div_lt_iff_lt_mul B_pos]; rw [Nat.pow_succ] at h; exact h
      have := ih this; omega
theorem lt_of_digs_length {n k : Nat} (h : (digs n).length ≤ k) : n < B ^ k := by
  have := val_lt (digs_ok n)
  rw [val_digs] at this
  exact Nat.lt_of_lt_of_le this (Nat.pow_le_pow_right B_pos h)
theorem digs_length {n k : Nat} : (digs n).length ≤ k ↔ n < B ^ k := ⟨lt_of_digs_length, digs_length_le⟩
theorem digs_length_mono {a b : Nat} (h : a ≤ b) : (digs a).length ≤ (digs b).length :=
  digs_length_le (Nat.lt_of_le_of_lt h (lt_of_digs_length (Nat.le_refl _)))
theorem val_lt_of_drop {a b : List Nat} (ha : okD a) (hb : okD b) (hl : a.length = b.length) {i : Nat} (hi : i < a.length) (hd : a.drop (i + 1) = b.drop (i + 1)) (hx : a[i]! < b[i]!) : val a < val b := by
  have hib : i < b.length := by omega
  have ea : a = a.take i ++ a[i] :: a.drop (i + 1) := by rw [← List.drop_eq_getElem_cons hi, List.take_append_drop]
  have eb : b = b.take i ++ b[i] :: b.drop (i + 1) := by rw [← List.drop_eq_getElem_cons hib, List.take_append_drop]
  rw [ea, eb, val_append, val_append, hd]
  have h1 := val_lt (okD_take ha i)
  have la : (a.take i).length = i := by rw [List.length_take]; omega
  have lb : (b.take i).length = i := by rw [List.length_take]; omega
  rw [la] at h1 ⊢; rw [lb]
  simp only [val, Nat.mul_add]
  simp only [hi, hib, getElem!_pos] at hx
  have : B ^ i * a[i] + B ^ i ≤ B ^ i * b[i] := by rw [← Nat.mul_succ]; exact Nat.mul_le_mul_left _ hx
  omega
def cmpD (a b : List Nat) : Int := if a.length ≠ b.length then (a.length : Int) - b.length else if val a < val b then -1 else if val b < val a then 1 else 0
theorem cmpD_digs (x y : Nat) : (0 ≤ cmpD (digs x) (digs y)) ↔ y ≤ x := by
  unfold cmpD
  rw [val_digs, val_digs]
  by_cases hl : (digs x).length = (digs y).length
  · rw [if_neg (by simp [hl])]
    split
    · constructor
      · intro h; omega
      · intro h; omega
    · split <;> constructor <;> intros <;> omega
  · rw [if_pos (by simpa using hl)]
    constructor
    · intro h
      refine Decidable.byContradiction fun hn => ?_
      have := digs_length_mono (a := x) (b := y) (by omega)
      omega
    · intro h
      have := digs_length_mono h
      omega
def addL : List Nat → List Nat → Nat → List Nat
  | [], _, c => [c]
  | x :: a, b, c => (x + b.headD 0 + c) % B :: addL a b.tail ((x + b.headD 0 + c) / B)
theorem val_head_tail (b : List Nat) : val b = b.headD 0 + B * val b.tail := by cases b <;> simp [val]
theorem addL_spec : ∀ {a b : List Nat} {c : Nat}, okD a → okD b → c ≤ 1 → b.length ≤ a.length → val (addL a b c) = val a + val b + c ∧ okD (addL a b c) ∧ (addL a b c).length = a.length + 1
  | [], b, c, _, _, hc, hl => by
    have : b = [] := List.eq_nil_of_length_eq_zero (by simpa using hl)
    subst this
    simp only [addL, val]
    exact ⟨by omega, by rw [okD_cons]; exact ⟨by rw [B_eq]; omega, okD_nil⟩, rfl⟩
  | x :: a, b, c, ha, hb, hc, hl => by
    have h1 := (okD_cons.1 ha).1
    have h2 := okD_head hb
    have hc' : (x + b.headD 0 + c) / B ≤ 1 := by
      have : x + b.headD 0 + c < 2 * B := by omega
      have := (Nat.div_lt_iff_lt_mul B_pos).2 this
      omega
    obtain ⟨e1, e2, e3⟩ := addL_spec (a := a) (b := b.tail) (okD_cons.1 ha).2 (okD_tail hb) hc' (by simp only [List.length_tail, List.length_cons] at hl ⊢; omega)
    simp only [addL, val, e1, okD_cons, List.length_cons, e3]
    refine ⟨?_, ⟨Nat.mod_lt _ B_pos, e2⟩, trivial⟩
    rw [val_head_tail b]
    have := Nat.mod_add_div (x + b.headD 0 + c) B
    simp only [Nat.mul_add]
    omega
def sb (x y c : Nat) : Nat := (x + B - y + B - c) % B
def bw (x y c : Nat) : Nat := if x < y + c then 1 else 0
def subL : List Nat → List Nat → Nat → List Nat
  | [], _, _ => []
  | x :: a, b, c => sb x (b.headD 0) c :: subL a b.tail (bw x (b.headD 0) c)
theorem subL_spec : ∀ {a b : List Nat} {c : Nat}, okD a → okD b → c ≤ 1 → b.length ≤ a.length → okD (subL a b c) ∧ (subL a b c).length = a.length ∧ ∃ c', val (subL a b c) + val b + c = val a + c' * B ^ a.length
  | [], b, c, _, _, hc, hl => by
    have : b = [] := List.eq_nil_of_length_eq_zero (by simpa using hl)
    subst this
    exact ⟨okD_nil, rfl, c, by simp [subL, val]⟩
  | x :: a, b, c, ha, hb, hc, hl => by
    have h1 := (okD_cons.1 ha).1
    have h2 := okD_head hb
    obtain ⟨e1, e2, c', e3⟩ := subL_spec (a := a) (b := b.tail) (c := bw x (b.headD 0) c) (okD_cons.1 ha).2 (okD_tail hb) (by unfold bw; split <;> omega) (by simp only [List.length_tail, List.length_cons] at hl ⊢; omega)
    simp only [bw] at e1 e2 e3
    simp only [subL, sb, bw, val, okD_cons, List.length_cons, e2]
    refine ⟨⟨Nat.mod_lt _ B_pos, e1⟩, trivial, c', ?_⟩
    rw [val_head_tail b]
    have key : (x + B - b.headD 0 + B - c) % B + b.headD 0 + c = x + B * (if x < b.headD 0 + c then 1 else 0) := by
      split
      · rename_i hlt
        have e : x + B - b.headD 0 + B - c = (x + B - b.headD 0 - c) + B := by omega
        rw [e, Nat.add_mod_right, Nat.mod_eq_of_lt (by omega)]; omega
      · rename_i hlt
        have e : x + B - b.headD 0 + B - c = (x - b.headD 0 - c) + B + B := by omega
        rw [e, Nat.add_mod_right, Nat.add_mod_right, Nat.mod_eq_of_lt (by omega)]; omega
    have e4 : B * (val (subL a b.tail (if x < b.headD 0 + c then 1 else 0)) + val b.tail + (if x < b.headD 0 + c then 1 else 0)) = B * (val a + c' * B ^ a.length) := by rw [e3]
    have e5 : c' * B ^ (a.length + 1) = B * (c' * B ^ a.length) := by rw [Nat.pow_succ, ← Nat.mul_assoc, Nat.mul_comm]
    rw [e5]
    simp only [Nat.mul_add] at e4
    generalize B * (if x < b.headD 0 + c then 1 else 0) = q at *
    omega
theorem subL_val {a b : List Nat} (ha : okD a) (hb : okD b) (hl : b.length ≤ a.length) (hv : val b ≤ val a) : val (subL a b 0) = val a - val b ∧ okD (subL a b 0) ∧ (subL a b 0).length = a.length := by
  obtain ⟨h1, h2, c', h3⟩ := subL_spec ha hb (Nat.zero_le _) hl
  refine ⟨?_, h1, h2⟩
  have h4 := val_lt h1
  rw [h2] at h4
  have h5 := val_lt ha
  have : c' = 0 := by
    rcases Nat.eq_zero_or_pos c' with h | h
    · exact h
    · have : 1 * B ^ a.length ≤ c' * B ^ a.length := Nat.mul_le_mul_right _ h
      omega
  subst this
  omega
def macL (a : Nat) : List Nat → List Nat → Nat → List Nat
  | [], o, c => c % B :: o.tail
  | b :: y, o, c => (c + a * b + o.headD 0) % B :: macL a y o.tail ((c + a * b + o.headD 0) / B)
theorem macL_spec {a : Nat} (ha : a < B) : ∀ {y o : List Nat} {c : Nat}, okD y → okD o → c < B → y.length < o.length → (∀ d ∈ o.drop y.length, d = 0) →
    val (macL a y o c) = a * val y + val o + c ∧ okD (macL a y o c) ∧ (macL a y o c).length = o.length ∧ ∀ d ∈ (macL a y o c).drop (y.length + 1), d = 0
  | [], o, c, _, ho, hc, hl, hz => by
    cases o with
    | nil => simp at hl
    | cons x o =>
      have hx : x = 0 := hz x (by simp)
      subst hx
      simp only [macL, val, List.tail_cons, Nat.mod_eq_of_lt hc, okD_cons, List.length_cons, List.length_nil]
      refine ⟨by omega, ⟨hc, (okD_cons.1 ho).2⟩, trivial, fun d hd => hz d ?_⟩
      simp only [List.length_nil, List.drop_zero]
      simp at hd; exact List.mem_cons_of_mem _ hd
  | b :: y, o, c, hy, ho, hc, hl, hz => by
    cases o with
    | nil => simp at hl
    | cons x o =>
      have hb := (okD_cons.1 hy).1
      have hx := (okD_cons.1 ho).1
      have hab : a * b ≤ (B - 1) * (B - 1) := Nat.mul_le_mul (by omega) (by omega)
      have hc' : (c + a * b + x) / B < B := by
        rw [Nat.div_lt_iff_lt_mul B_pos]
        have : (B - 1) * (B - 1) = 18446744065119617025 := by decide
        have : B * B = 18446744073709551616 := by decide
        rw [B_eq] at hc hx
        omega
      obtain ⟨e1, e2, e3, e4⟩ := macL_spec ha (y := y) (o := o) (c := (c + a * b + x) / B) (okD_cons.1 hy).2 (okD_cons.1 ho).2 hc' (by simpa using hl) (fun d hd => hz d (by simpa using hd))
      simp only [macL, List.headD_cons, List.tail_cons, val, e1, okD_cons, List.length_cons, e3]
      refine ⟨?_, ⟨Nat.mod_lt _ B_pos, e2⟩, trivial, fun d hd => e4 d (by simpa using hd)⟩
      have := Nat.mod_add_div (c + a * b + x) B
      have e5 : a * (b + B * val y) = a * b + B * (a * val y) := by rw [Nat.mul_add, Nat.mul_left_comm]
      rw [e5]
      simp only [Nat.mul_add]
      omega
def mulL : List Nat → List Nat → List Nat → List Nat
  | [], _, o => o
  | a :: x, y, o => (macL a y o 0).headD 0 :: mulL x y (macL a y o 0).tail
theorem mulL_spec : ∀ {x y o : List Nat}, okD x → okD y → okD o → o.length = x.length + y.length → (∀ d ∈ o.drop y.length, d = 0) → val (mulL x y o) = val x * val y + val o ∧ okD (mulL x y o)
  | [], y, o, _, _, ho, _, _ => by simp [mulL, val, ho]
  | a :: x, y, o, hx, hy, ho, hl, hz => by
    simp only [List.length_cons] at hl
    obtain ⟨e1, e2, e3, e4⟩ := macL_spec (okD_cons.1 hx).1 hy ho B_pos (by omega) hz
    obtain ⟨f1, f2⟩ := mulL_spec (x := x) (y := y) (o := (macL a y o 0).tail) (okD_cons.1 hx).2 hy (okD_tail e2) (by rw [List.length_tail, e3]; omega) (fun d hd => e4 d (by rw [← List.drop_one, List.drop_drop, Nat.add_comm] at hd; exact hd))
    simp only [mulL, val, f1, okD_cons]
    refine ⟨?_, okD_head e2, f2⟩
    have := val_head_tail (macL a y o 0)
    rw [e1] at this
    have e5 : (a + B * val x) * val y = a * val y + B * (val x * val y) := by rw [Nat.add_mul, Nat.mul_assoc]
    rw [e5]
    simp only [Nat.mul_add]
    omega
end Go.Whole
namespace Go.Whole
theorem top32 (b : BitVec 32) : b.toNat / 2147483648 = if b.msb then 1 else 0 := by
  have h := b.isLt
  have := BitVec.msb_eq_decide b
  rw [this]
  by_cases hc : 2147483648 ≤ b.toNat
  · rw [if_pos (by simpa using hc)]; omega
  · rw [if_neg (by simpa using hc)]; omega
theorem borrow32 (X Y D : BitVec 32) (c : Nat) (hc : c ≤ 1) (hD : D.toNat = (X.toNat + 4294967296 - Y.toNat + 4294967296 - c) % 4294967296) :
    ((~~~X &&& Y) ||| (~~~(X ^^^ Y) &&& D)).toNat / 2147483648 = if X.toNat < Y.toNat + c then 1 else 0 := by
  rw [top32]
  have hX := X.isLt
  have hY := Y.isLt
  simp only [BitVec.msb_or, BitVec.msb_and, BitVec.msb_not, BitVec.msb_xor, BitVec.msb_eq_decide X, BitVec.msb_eq_decide Y, BitVec.msb_eq_decide D, hD]
  by_cases h1 : 2147483648 ≤ X.toNat <;> by_cases h2 : 2147483648 ≤ Y.toNat <;> by_cases h3 : 2147483648 ≤ (X.toNat + 4294967296 - Y.toNat + 4294967296 - c) % 4294967296 <;>
    by_cases h4 : X.toNat < Y.toNat + c <;> simp [h1, h2, h3, h4] <;> omega
end Go.Whole
end
section
namespace Go.Whole
open Go
theorem B_two : B = 2 ^ 32 := by decide
theorem getD_val : ∀ {l : List Nat} (_ : okD l) (k : Nat), l.getD k 0 = val l / B ^ k % B
  | [], _, k => by simp [val]
  | d :: r, h, 0 => by
    simp only [val, List.getD_cons_zero, Nat.pow_zero, Nat.div_one]
    rw [Nat.add_mul_mod_self_left, Nat.mod_eq_of_lt (okD_cons.1 h).1]
  | d :: r, h, k + 1 => by
    have ih := getD_val (okD_cons.1 h).2 k
    simp only [val, List.getD_cons_succ, ih]
    rw [Nat.pow_succ, Nat.mul_comm (B ^ k) B, ← Nat.div_div_eq_div_mul, Nat.add_mul_div_left _ _ B_pos, Nat.div_eq_of_lt (okD_cons.1 h).1, Nat.zero_add]
theorem mod_div_bit (a r : Nat) (hr : r < 32) : a % B / 2 ^ r % 2 = a / 2 ^ r % 2 := by
  have e : B = 2 ^ r * 2 ^ (32 - r) := by rw [← Nat.pow_add, B_two]; congr 1; omega
  rw [e, Nat.mod_mul_right_div_self, Nat.mod_mod_of_dvd]
  have : 2 ^ (32 - r) = 2 * 2 ^ (31 - r) := by rw [← Nat.pow_succ']; congr 1; omega
  rw [this]; exact Nat.dvd_mul_right _ _
theorem pow_split (i : Nat) : (2 : Nat) ^ i = B ^ (i / 32) * 2 ^ (i % 32) := by
  rw [B_two, ← Nat.pow_mul, ← Nat.pow_add]; congr 1; omega
theorem bit_val {l : List Nat} (h : okD l) (i : Nat) : l.getD (i / 32) 0 / 2 ^ (i % 32) % 2 = val l / 2 ^ i % 2 := by
  rw [getD_val h, mod_div_bit _ _ (Nat.mod_lt _ (by decide)), Nat.div_div_eq_div_mul, ← pow_split]
theorem half_step (x i : Nat) : x / 2 ^ i = 2 * (x / 2 ^ (i + 1)) + x / 2 ^ i % 2 := by
  have : x / 2 ^ (i + 1) = x / 2 ^ i / 2 := by rw [Nat.pow_succ, Nat.div_div_eq_div_mul]
  rw [this]; omega
theorem div_step (x y i : Nat) (hy : 0 < y) : let r := 2 * (x / 2 ^ (i + 1) % y) + x / 2 ^ i % 2
    x / 2 ^ i % y = (if y ≤ r then r - y else r) ∧ x / 2 ^ i / y = 2 * (x / 2 ^ (i + 1) / y) + (if y ≤ r then 1 else 0) := by
  intro r
  have h1 := half_step x i
  have h2 := Nat.div_add_mod (x / 2 ^ (i + 1)) y
  have h3 := Nat.mod_lt (x / 2 ^ (i + 1)) hy
  have hb : x / 2 ^ i % 2 < 2 := Nat.mod_lt _ (by decide)
  have e : x / 2 ^ i = y * (2 * (x / 2 ^ (i + 1) / y)) + r := by
    rw [h1]
    have : y * (2 * (x / 2 ^ (i + 1) / y)) = 2 * (y * (x / 2 ^ (i + 1) / y)) := by rw [Nat.mul_left_comm]
    rw [this]
    show _ = _ + (2 * (x / 2 ^ (i + 1) % y) + x / 2 ^ i % 2)
    omega
  have hr : r < 2 * y := by show 2 * (x / 2 ^ (i + 1) % y) + x / 2 ^ i % 2 < 2 * y; omega
  by_cases hc : y ≤ r
  · rw [if_pos hc, if_pos hc]
    have e2 : x / 2 ^ i = (r - y) + y * (2 * (x / 2 ^ (i + 1) / y) + 1) := by rw [e, Nat.mul_succ]; omega
    rw [e2, Nat.add_mul_mod_self_left, Nat.add_mul_div_left _ _ hy, Nat.mod_eq_of_lt (by omega), Nat.div_eq_of_lt (by omega)]
    exact ⟨rfl, by omega⟩
  · rw [if_neg hc, if_neg hc]
    have e2 : x / 2 ^ i = r + y * (2 * (x / 2 ^ (i + 1) / y)) := by rw [e]; omega
    rw [e2, Nat.add_mul_mod_self_left, Nat.add_mul_div_left _ _ hy, Nat.mod_eq_of_lt (by omega), Nat.div_eq_of_lt (by omega)]
    exact ⟨rfl, by omega⟩
theorem val_set : ∀ (l : List Nat) (k e : Nat), k < l.length → val (l.set k (l.getD k 0 + e)) = val l + e * B ^ k
  | [], k, e, h => by simp at h
  | d :: r, 0, e, _ => by simp [val]; omega
  | d :: r, k + 1, e, h => by
    have := val_set r k e (by simpa using h)
    simp only [List.set_cons_succ, List.getD_cons_succ, val, this, Nat.mul_add, Nat.pow_succ]
    rw [Nat.mul_left_comm, Nat.mul_comm (B ^ k) B]; omega
theorem or_bit {q r : Nat} (h : q % 2 ^ (r + 1) = 0) : q ||| 2 ^ r = q + 2 ^ r := by
  obtain ⟨m, rfl⟩ := Nat.dvd_of_mod_eq_zero h
  rw [Nat.two_pow_add_eq_or_of_lt]
  exact Nat.pow_lt_pow_right (by decide) (by omega)
theorem digit_low {l : List Nat} (h : okD l) {i : Nat} (hv : val l % 2 ^ (i + 1) = 0) : l.getD (i / 32) 0 % 2 ^ (i % 32 + 1) = 0 := by
  rw [getD_val h]
  have hr : i % 32 + 1 ≤ 32 := by have := Nat.mod_lt i (by decide : 0 < 32); omega
  have hd : (2 : Nat) ^ (i % 32 + 1) ∣ B := by rw [B_two]; exact Nat.pow_dvd_pow 2 hr
  rw [Nat.mod_mod_of_dvd _ hd]
  obtain ⟨m, hm⟩ := Nat.dvd_of_mod_eq_zero hv
  have e : (2 : Nat) ^ (i + 1) = B ^ (i / 32) * 2 ^ (i % 32 + 1) := by rw [B_two, ← Nat.pow_mul, ← Nat.pow_add]; congr 1; omega
  rw [hm, e, Nat.mul_assoc, Nat.mul_div_cancel_left _ (Nat.pow_pos B_pos)]
  exact Nat.mul_mod_right _ _
theorem digit_room {l : List Nat} (h : okD l) {i : Nat} (hv : val l % 2 ^ (i + 1) = 0) : l.getD (i / 32) 0 + 2 ^ (i % 32) < B := by
  have h1 := digit_low h hv
  have h2 : l.getD (i / 32) 0 < B := by rw [getD_val h]; exact Nat.mod_lt _ B_pos
  have hr : i % 32 + 1 ≤ 32 := by have := Nat.mod_lt i (by decide : 0 < 32); omega
  obtain ⟨m, hm⟩ := Nat.dvd_of_mod_eq_zero h1
  have e : B = 2 ^ (i % 32 + 1) * 2 ^ (32 - (i % 32 + 1)) := by rw [B_two, ← Nat.pow_add]; congr 1; omega
  rw [hm] at h2 ⊢
  rw [e] at h2 ⊢
  have h3 := Nat.lt_of_mul_lt_mul_left h2
  have h4 : 2 ^ (i % 32 + 1) * m + 2 ^ (i % 32 + 1) ≤ 2 ^ (i % 32 + 1) * 2 ^ (32 - (i % 32 + 1)) := by rw [← Nat.mul_succ]; exact Nat.mul_le_mul_left _ h3
  have h5 : (2 : Nat) ^ (i % 32) < 2 ^ (i % 32 + 1) := Nat.pow_lt_pow_right (by decide) (by omega)
  omega
theorem quot_set {l : List Nat} (h : okD l) {i : Nat} (hv : val l % 2 ^ (i + 1) = 0) (hi : i / 32 < l.length) :
    okD (l.set (i / 32) (l.getD (i / 32) 0 ||| 2 ^ (i % 32))) ∧ val (l.set (i / 32) (l.getD (i / 32) 0 ||| 2 ^ (i % 32))) = val l + 2 ^ i := by
  rw [or_bit (digit_low h hv), val_set _ _ _ hi, Nat.mul_comm, ← pow_split]
  refine ⟨fun d hd => ?_, rfl⟩
  rcases List.mem_or_eq_of_mem_set hd with h1 | h1
  · exact h d h1
  · rw [h1]; exact digit_room h hv
def shiftL : List Nat → Nat → List Nat
  | [], c => [c]
  | x :: d, c => (x * 2 % B + c) :: shiftL d (x / 2 ^ 31)
theorem shiftL_spec : ∀ {d : List Nat} {c : Nat}, okD d → c ≤ 1 → val (shiftL d c) = 2 * val d + c ∧ okD (shiftL d c) ∧ (shiftL d c).length = d.length + 1
  | [], c, _, hc => by
    simp only [shiftL, val]
    exact ⟨by omega, by rw [okD_cons]; exact ⟨by rw [B_eq]; omega, okD_nil⟩, rfl⟩
  | x :: d, c, h, hc => by
    have hx := (okD_cons.1 h).1
    rw [B_eq] at hx
    obtain ⟨e1, e2, e3⟩ := shiftL_spec (d := d) (c := x / 2 ^ 31) (okD_cons.1 h).2 (by omega)
    simp only [shiftL, val, e1, okD_cons, List.length_cons, e3]
    rw [B_eq]
    exact ⟨by omega, ⟨by omega, e2⟩, trivial⟩
end Go.Whole
end
section
namespace Go.Simplex
def sumN : Nat → (Nat → Rat) → Rat
  | 0, _ => 0
  | n + 1, f => sumN n f + f n
theorem sumN_congr {n : Nat} {f g : Nat → Rat} (h : ∀ i, i < n → f i = g i) : sumN n f = sumN n g := by
  induction n with
  | zero => rfl
  | succ n ih => simp only [sumN]; rw [ih (fun i hi => h i (by omega)), h n (by omega)]
theorem sumN_zero (n : Nat) : sumN n (fun _ => 0) = 0 := by
  induction n with
  | zero => rfl
  | succ n ih => simp only [sumN]; rw [ih]; grind
theorem sumN_add (n : Nat) (f g : Nat → Rat) : sumN n (fun i => f i + g i) = sumN n f + sumN n g := by
  induction n with
  | zero => simp only [sumN]; grind
  | succ n ih => simp only [sumN]; rw [ih]; grind
theorem sumN_sub (n : Nat) (f g : Nat → Rat) : sumN n (fun i => f i - g i) = sumN n f - sumN n g := by
  induction n with
  | zero => simp only [sumN]; grind
  | succ n ih => simp only [sumN]; rw [ih]; grind
theorem sumN_mul (n : Nat) (f : Nat → Rat) (t : Rat) : sumN n (fun i => f i * t) = sumN n f * t := by
  induction n with
  | zero => simp only [sumN]; grind
  | succ n ih => simp only [sumN]; rw [ih]; grind
theorem sumN_swap (n m : Nat) (f : Nat → Nat → Rat) : sumN n (fun i => sumN m (fun j => f i j)) = sumN m (fun j => sumN n (fun i => f i j)) := by
  induction n with
  | zero => simp only [sumN]; rw [sumN_zero]
  | succ n ih => simp only [sumN]; rw [ih, ← sumN_add]
theorem sumN_ite {n p : Nat} (hp : p < n) (x : Rat) (h : Nat → Rat) : sumN n (fun i => if i = p then x else h i) = x + sumN n h - h p := by
  induction n with
  | zero => omega
  | succ n ih =>
    simp only [sumN]
    by_cases hpn : p = n
    · subst hpn
      rw [if_pos rfl, sumN_congr (g := h) (fun i hi => by rw [if_neg (by omega)])]; grind
    · rw [if_neg (fun e => hpn e.symm), ih (by omega)]; grind
theorem sumN_nonneg {n : Nat} {f : Nat → Rat} (h : ∀ i, i < n → 0 ≤ f i) : 0 ≤ sumN n f := by
  induction n with
  | zero => simp only [sumN]; grind
  | succ n ih => simp only [sumN]; have := ih (fun i hi => h i (by omega)); have := h n (by omega); grind
theorem sumN_pos {n : Nat} {f : Nat → Rat} (h : 0 < sumN n f) : ∃ i, i < n ∧ 0 < f i := by
  refine Decidable.byContradiction fun hn => ?_
  have h0 : ∀ i, i < n → 0 ≤ (fun i => - f i) i := fun i hi => by
    have : ¬ 0 < f i := fun hp => hn ⟨i, hi, hp⟩
    show 0 ≤ - f i
    grind
  have h1 := sumN_nonneg h0
  have h2 : sumN n (fun i => - f i) = - sumN n f := by
    have := sumN_mul n f (-1)
    rw [sumN_congr (g := fun i => f i * (-1)) (fun i _ => by grind), this]; grind
  rw [h2] at h1
  grind
structure S where
  r : Nat → Nat → Rat
  c : Nat → Rat
  b : Nat → Nat
def piv (s : S) (p q : Nat) : S where
  r i j := if i = p then s.r p j * (s.r p q)⁻¹ else s.r i j - s.r i q * (s.r p j * (s.r p q)⁻¹)
  c j := s.c j - s.c q * (s.r p j * (s.r p q)⁻¹)
  b i := if i = p then q else s.b i
def c0 (n cols j : Nat) : Rat := if cols ≤ j ∧ j < cols + n then 1 else 0
theorem c0_low {n cols j : Nat} (h : j < cols) : c0 n cols j = 0 := if_neg (by omega)
structure Inv (n cols : Nat) (A : Nat → Nat → Rat) (s : S) : Prop where
  comb : ∀ i, i < n → ∀ j, j ≤ cols + n → s.r i j = sumN n fun k => s.r i (cols + k) * A k j
  cost : ∀ j, j ≤ cols + n → s.c j = c0 n cols j - sumN n fun k => (1 - s.c (cols + k)) * A k j
  back : ∀ k, k < n → ∀ j, j ≤ cols + n → A k j = sumN n fun i => A k (s.b i) * s.r i j
  unit : ∀ i, i < n → ∀ l, l < n → s.r i (s.b l) = if i = l then 1 else 0
  art : ∀ j, j ≤ cols + n → s.c j = c0 n cols j - sumN n fun i => c0 n cols (s.b i) * s.r i j
  nn : ∀ i, i < n → 0 ≤ s.r i (cols + n)
  bl : ∀ i, i < n → s.b i < cols + n
variable {n cols : Nat} {A : Nat → Nat → Rat} {s s' : S}
theorem sum_piv {p q : Nat} (hp : p < n) (ha : s.r p q ≠ 0) (w : Nat → Rat) (j : Nat) :
    sumN n (fun i => w ((piv s p q).b i) * (piv s p q).r i j) = sumN n (fun i => w (s.b i) * s.r i j) + (w q - sumN n (fun i => w (s.b i) * s.r i q)) * (s.r p j * (s.r p q)⁻¹) := by
  have e : sumN n (fun i => w ((piv s p q).b i) * (piv s p q).r i j) = sumN n (fun i => if i = p then w q * (s.r p j * (s.r p q)⁻¹) else w (s.b i) * s.r i j - w (s.b i) * s.r i q * (s.r p j * (s.r p q)⁻¹)) := sumN_congr fun i _ => by
    simp only [piv]
    by_cases h : i = p
    · rw [if_pos h, if_pos h, if_pos h]
    · rw [if_neg h, if_neg h, if_neg h]; grind
  rw [e, sumN_ite hp, sumN_sub, sumN_mul]
  have h1 := Rat.mul_inv_cancel _ ha
  generalize (s.r p q)⁻¹ = y at *
  grind
theorem Inv.piv (h : Inv n cols A s) {p q : Nat} (hp : p < n) (hq : q < cols) (ha : 0 < s.r p q)
    (hr : ∀ i, i < n → 0 < s.r i q → s.r p (cols + n) * (s.r p q)⁻¹ ≤ s.r i (cols + n) * (s.r i q)⁻¹) : Inv n cols A (piv s p q) := by
  have ha0 : s.r p q ≠ 0 := by grind
  have hinv : 0 < (s.r p q)⁻¹ := Rat.inv_pos.2 ha
  have hcan := Rat.mul_inv_cancel _ ha0
  refine ⟨fun i hi j hj => ?_, fun j hj => ?_, fun k hk j hj => ?_, fun i hi l hl => ?_, fun j hj => ?_, fun i hi => ?_, fun i hi => ?_⟩
  · have h1 := h.comb i hi j hj
    have h2 := h.comb p hp j hj
    simp only [Simplex.piv]
    by_cases e : i = p
    · simp only [if_pos e]
      rw [h2, ← sumN_mul]
      exact sumN_congr fun k _ => by grind
    · simp only [if_neg e]
      have h3 : sumN n (fun k => (s.r i (cols + k) - s.r i q * (s.r p (cols + k) * (s.r p q)⁻¹)) * A k j) = sumN n (fun k => s.r i (cols + k) * A k j) - sumN n (fun k => s.r p (cols + k) * A k j) * (s.r i q * (s.r p q)⁻¹) := by
        rw [← sumN_mul, ← sumN_sub]
        exact sumN_congr fun k _ => by grind
      rw [h3, ← h1, ← h2]; grind
  · have h1 := h.cost j hj
    have h2 := h.comb p hp j hj
    simp only [Simplex.piv]
    have h3 : sumN n (fun k => (1 - (s.c (cols + k) - s.c q * (s.r p (cols + k) * (s.r p q)⁻¹))) * A k j) = sumN n (fun k => (1 - s.c (cols + k)) * A k j) + sumN n (fun k => s.r p (cols + k) * A k j) * (s.c q * (s.r p q)⁻¹) := by
      rw [← sumN_mul, ← sumN_add]
      exact sumN_congr fun k _ => by grind
    rw [h3, ← h2]; grind
  · rw [sum_piv hp ha0 (fun x => A k x) j, ← h.back k hk j hj, ← h.back k hk q (by omega)]; grind
  · simp only [Simplex.piv]
    by_cases hl' : l = p
    · simp only [if_pos hl']
      by_cases hi' : i = p
      · rw [if_pos hi', if_pos (by omega)]; exact hcan
      · rw [if_neg hi', if_neg (by omega)]; grind
    · simp only [if_neg hl']
      have hz : s.r p (s.b l) = 0 := by rw [h.unit p hp l hl, if_neg (fun e => hl' e.symm)]
      rw [hz]
      by_cases hi' : i = p
      · rw [if_pos hi', if_neg (by omega)]; grind
      · rw [if_neg hi', h.unit i hi l hl]; grind
  · rw [sum_piv hp ha0 (c0 n cols) j]
    have h1 := h.art j hj
    have h2 := h.art q (by omega)
    have h3 := c0_low (n := n) hq
    simp only [Simplex.piv]
    grind
  · simp only [Simplex.piv]
    by_cases hi' : i = p
    · rw [if_pos hi']; exact Rat.mul_nonneg (h.nn p hp) (Rat.le_of_lt hinv)
    · rw [if_neg hi']
      have hx := h.nn i hi
      have hy : 0 ≤ s.r p (cols + n) * (s.r p q)⁻¹ := Rat.mul_nonneg (h.nn p hp) (Rat.le_of_lt hinv)
      by_cases hs : 0 < s.r i q
      · have h1 := hr i hi hs
        have h2 := Rat.mul_le_mul_of_nonneg_left h1 (Rat.le_of_lt hs)
        have h3 := Rat.mul_inv_cancel _ (show s.r i q ≠ 0 by grind)
        have h4 : s.r i q * (s.r i (cols + n) * (s.r i q)⁻¹) = s.r i (cols + n) := by
          have : s.r i q * (s.r i (cols + n) * (s.r i q)⁻¹) = s.r i (cols + n) * (s.r i q * (s.r i q)⁻¹) := by grind
          rw [this, h3]; grind
        rw [h4] at h2; grind
      · have h1 : 0 ≤ - s.r i q := by grind
        have h2 := Rat.mul_nonneg h1 hy
        grind
  · simp only [Simplex.piv]
    by_cases hi' : i = p
    · rw [if_pos hi']; omega
    · rw [if_neg hi']; exact h.bl i hi
theorem Inv.two (h : Inv n cols A s) (h' : Inv n cols A s') {j : Nat} (hj : j ≤ cols + n) : s'.c j = s.c j + sumN n fun i => s'.c (s.b i) * s.r i j := by
  have e1 : sumN n (fun k => (1 - s'.c (cols + k)) * A k j) = sumN n (fun i => (c0 n cols (s.b i) - s'.c (s.b i)) * s.r i j) := by
    have : ∀ k, k < n → (1 - s'.c (cols + k)) * A k j = sumN n (fun i => (1 - s'.c (cols + k)) * A k (s.b i) * s.r i j) := fun k hk => by
      rw [h.back k hk j hj]
      have := sumN_mul n (fun i => A k (s.b i) * s.r i j) (1 - s'.c (cols + k))
      rw [Rat.mul_comm, ← this]
      exact sumN_congr fun i _ => by grind
    rw [sumN_congr this, sumN_swap]
    refine sumN_congr fun i hi => ?_
    rw [sumN_mul]
    congr 1
    have := h'.cost (s.b i) (Nat.le_of_lt (h.bl i hi))
    grind
  rw [h'.cost j hj, e1, h.art j hj]
  have e2 : sumN n (fun i => (c0 n cols (s.b i) - s'.c (s.b i)) * s.r i j) = sumN n (fun i => c0 n cols (s.b i) * s.r i j) - sumN n (fun i => s'.c (s.b i) * s.r i j) := by
    rw [← sumN_sub]; exact sumN_congr fun i _ => by grind
  rw [e2]; grind
theorem Inv.row (h : Inv n cols A s) {q : Nat} (hq : q < cols) (hc : s.c q < 0) : ∃ i, i < n ∧ 0 < s.r i q := by
  have h1 := h.art q (by omega)
  rw [c0_low hq] at h1
  obtain ⟨i, hi, hp⟩ := sumN_pos (n := n) (f := fun i => c0 n cols (s.b i) * s.r i q) (by grind)
  refine ⟨i, hi, ?_⟩
  simp only [c0] at hp
  split at hp <;> grind
def value (n : Nat) (s : S) (last v : Nat) : Rat := sumN n fun i => if s.b i = v then s.r i last else 0
def Enter (cols : Nat) (s : S) (q : Nat) : Prop := q < cols ∧ s.c q < 0 ∧ ∀ j, j < q → 0 ≤ s.c j
def Leave (n cols : Nat) (s : S) (q p : Nat) : Prop := p < n ∧ 0 < s.r p q ∧ ∀ i, i < n → 0 < s.r i q →
  s.r p (cols + n) * (s.r p q)⁻¹ < s.r i (cols + n) * (s.r i q)⁻¹ ∨ (s.r p (cols + n) * (s.r p q)⁻¹ = s.r i (cols + n) * (s.r i q)⁻¹ ∧ s.b p ≤ s.b i)
structure Run (n cols m : Nat) (A : Nat → Nat → Rat) (st : Nat → S) (en le : Nat → Nat) : Prop where
  inv : Inv n cols A (st 0)
  ent : ∀ k, k < m → Enter cols (st k) (en k)
  lea : ∀ k, k < m → Leave n cols (st k) (en k) (le k)
  nxt : ∀ k, k < m → st (k + 1) = piv (st k) (le k) (en k)
variable {m : Nat} {st : Nat → S} {en le : Nat → Nat}
def Basic (n : Nat) (s : S) (v : Nat) : Prop := ∃ i, i < n ∧ s.b i = v
theorem Run.enters (h : Run n cols m A st en le) {v : Nat} : ∀ {d i : Nat}, i + d ≤ m → ¬ Basic n (st i) v → Basic n (st (i + d)) v → ∃ e, i ≤ e ∧ e < i + d ∧ en e = v
  | 0, i, _, h1, h2 => absurd h2 h1
  | d + 1, i, hm, h1, h2 => by
    by_cases hb : Basic n (st (i + d)) v
    · obtain ⟨e, e1, e2, e3⟩ := h.enters (d := d) (by omega) h1 hb
      exact ⟨e, e1, by omega, e3⟩
    · obtain ⟨l, hl, hlb⟩ := h2
      rw [← Nat.add_assoc, h.nxt (i + d) (by omega)] at hlb
      simp only [piv] at hlb
      split at hlb
      · exact ⟨i + d, by omega, by omega, hlb⟩
      · exact absurd ⟨l, hl, hlb⟩ hb
def code (M : Nat) (b : Nat → Nat) : Nat → Nat
  | 0 => 0
  | k + 1 => code M b k * M + b k
end Go.Simplex
end
section
namespace Go.Whole
open Go Go.Vm
abbrev u32 (n : Nat) : Tr := .int .u32 (n : Int)
def dl (l : List Nat) : List Tr := l.map u32
def intC (nn : Bool) (z : Int) : List Tr := [.sl nn (dl (digs z.natAbs)), .bool (decide (z < 0))]
def encI (nn : Bool) (z : Int) : Tr := .agg (intC nn z)
def most : Nat := 4611686018427387903
def small (q : Rat) : Bool := decide (q.num.natAbs ≤ most) && decide (q.den ≤ most)
def ratC (q : Rat) : List Tr := if small q then [.int .i64 q.num, .int .i64 q.den, .sl false [], .bool false, .sl false [], .bool false] else [.int .i64 0, .int .i64 0, .sl true (dl (digs q.num.natAbs)), .bool (decide (q.num < 0)), .sl true (dl (digs q.den)), .bool false]
def encQ (q : Rat) : Tr := .agg (ratC q)
theorem ratC_length (q : Rat) : (ratC q).length = 6 := by unfold ratC; split <;> rfl
theorem ok_encQ (q : Rat) : elemOK true 6 (encQ q) := ⟨fun _ => rfl, (fun h => nomatch h), ratC_length q⟩
theorem small_true {q : Rat} (h : small q = true) : q.num.natAbs ≤ most ∧ q.den ≤ most := by simpa [small] using h
theorem ratC_small {q : Rat} (h : small q = true) : ratC q = [.int .i64 q.num, .int .i64 q.den, .sl false [], .bool false, .sl false [], .bool false] := if_pos h
theorem ratC_big {q : Rat} (h : small q = false) : ratC q = [.int .i64 0, .int .i64 0, .sl true (dl (digs q.num.natAbs)), .bool (decide (q.num < 0)), .sl true (dl (digs q.den)), .bool false] := if_neg (by simp [h])
theorem divInt_num {a b : Int} (hb : 0 < b) : (Rat.divInt a b).num = a.tdiv (Int.gcd a b) ∧ ((Rat.divInt a b).den : Int) = b.tdiv (Int.gcd a b) := by
  have hg : Int.gcd a b = Int.gcd b a := Int.gcd_comm a b
  have hd1 : ((Int.gcd b a : Nat) : Int) ∣ a := Int.gcd_dvd_right ..
  have hd2 : ((Int.gcd b a : Nat) : Int) ∣ b := Int.gcd_dvd_left ..
  rw [Rat.num_divInt, Rat.den_divInt, if_neg (by omega), hg, Int.sign_eq_one_of_pos hb, Int.one_mul]
  refine ⟨?_, ?_⟩
  · rw [Int.tdiv_eq_ediv_of_dvd hd1]
  · rw [Int.tdiv_eq_ediv_of_dvd hd2, Int.natCast_ediv]
    congr 1; omega
end Go.Whole
end
section
set_option linter.unusedSimpArgs false
set_option maxRecDepth 10000
namespace Go.Vm
open Go Go.Proofs Go.Whole
namespace YtajgclnahfmfmaaGreat
open Go.Proofs.Tryz
attribute [go_sem] Tryz.results187 Tryz.results96 Tryz.results104 Tryz.results170 Tryz.results178 Tryz.results236 Tryz.results239 Tryz.results243 Tryz.results240 Tryz.results272 Tryz.results271 Tryz.results186 Tryz.results188 Tryz.results106 Tryz.results105
abbrev tWInt : TypeId := 135
abbrev tU32 : TypeId := 222
theorem wrap_u32 (n : Nat) : IntKind.u32.wrap (n : Int) = ((n % B : Nat) : Int) := by
  simp [IntKind.wrap, IntKind.bits, IntKind.signed, B_eq]
theorem wrap_u64 (n : Nat) : IntKind.u64.wrap (n : Int) = ((n % 18446744073709551616 : Nat) : Int) := by
  simp [IntKind.wrap, IntKind.bits, IntKind.signed]
theorem wrap_u32_lt {n : Nat} (h : n < B) : IntKind.u32.wrap (n : Int) = (n : Int) := by rw [wrap_u32, Nat.mod_eq_of_lt h]
theorem wrap_u64_lt {n : Nat} (h : n < 18446744073709551616) : IntKind.u64.wrap (n : Int) = (n : Int) := by rw [wrap_u64, Nat.mod_eq_of_lt h]
theorem u64_add (a b : Nat) : IntKind.u64.wrap ((a : Int) + (b : Int)) = (((a + b) % 18446744073709551616 : Nat) : Int) := by rw [← Int.natCast_add, wrap_u64]
theorem u64_mul (a b : Nat) : IntKind.u64.wrap ((a : Int) * (b : Int)) = (((a * b) % 18446744073709551616 : Nat) : Int) := by rw [← Int.natCast_mul, wrap_u64]
theorem fdiv_nat (a b : Nat) : (a : Int).fdiv (b : Int) = ((a / b : Nat) : Int) := by
  rw [Int.fdiv_eq_ediv_of_nonneg _ (Int.natCast_nonneg b), Int.natCast_ediv]
theorem shr_nat (a s m : Nat) : (a : Int).fdiv (2 ^ (min s m)) = ((a / 2 ^ (min s m) : Nat) : Int) := by
  have : (2 : Int) ^ (min s m) = ((2 ^ (min s m) : Nat) : Int) := by simp
  rw [this, fdiv_nat]
section
variable {P : Program} {h : Hp} (t : TypeId) (n : Nat) (k' : IntKind)
@[go_sem high] theorem shr_u64 : binPV P h .shr t (.t (.int .u64 (n : Int))) (.t (.int k' 32)) = some (.t (.int .u64 ((n / 4294967296 : Nat) : Int))) := by
  rw [bin_shr, if_neg (by decide)]
  have : (n : Int).fdiv (2 ^ (min (Int.toNat 32) IntKind.u64.bits)) = ((n / 4294967296 : Nat) : Int) := fdiv_nat n 4294967296
  rw [this]
@[go_sem high] theorem shr_u32 : binPV P h .shr t (.t (.int .u32 (n : Int))) (.t (.int k' 31)) = some (.t (.int .u32 ((n / 2147483648 : Nat) : Int))) := by
  rw [bin_shr, if_neg (by decide)]
  have : (n : Int).fdiv (2 ^ (min (Int.toNat 31) IntKind.u32.bits)) = ((n / 2147483648 : Nat) : Int) := fdiv_nat n 2147483648
  rw [this]
end
theorem dl_length (l : List Nat) : (dl l).length = l.length := List.length_map _
theorem dl_get (l : List Nat) (i : Nat) : (dl l)[i]? = (l[i]?).map u32 := List.getElem?_map ..
theorem dl_take (l : List Nat) (i : Nat) : (dl l).take i = dl (l.take i) := (List.map_take ..).symm
theorem dl_nil : dl [] = [] := rfl
theorem sized_dl (l : List Nat) : sizedL (dl l) = true := by induction l with | nil => rfl | cons a l ih => simpa [dl, sizedL, Tr.sized, u32] using ih
theorem flat_dl (l : List Nat) : flat (dl l) = dl l := by induction l with | nil => rfl | cons a l ih => simpa [dl, flat, Tr.cells] using ih
theorem toNat_zero' : Int.toNat 0 = 0 := rfl
attribute [go_sem] dl_length dl_get sized_dl flat_dl toNat_zero'
theorem strip_snoc : ∀ (a : List Nat) (x : Nat), strip (a ++ [x]) = if x = 0 then strip a else a ++ [x]
  | [], x => by simp [strip]
  | d :: a, x => by
    simp only [List.cons_append, strip, strip_snoc a x]
    by_cases h : x = 0
    · simp [h]
    · simp [h]
theorem snoc_cases (l : List Nat) : l = [] ∨ ∃ a x, l = a ++ [x] := by
  rcases List.eq_nil_or_concat l with h | ⟨a, x, h⟩
  · exact .inl h
  · exact .inr ⟨a, x, by simpa using h⟩
theorem wrap_len {n : Nat} (h : n < 9223372036854775807) : IntKind.i64.wrap (((n + 1 : Nat) : Int) - 1) = (n : Int) := by
  rw [show ((n + 1 : Nat) : Int) - 1 = (n : Int) by omega]
  exact wrap_i64 (by omega) (by omega)
theorem trim_raw (nn : Bool) (l : List Nat) (neg : Bool) : DCall Tryz.prog 187 [.sl nn (dl l), .bool neg] (.agg [.sl nn (dl (strip l)), .bool (neg && !(strip l).isEmpty)]) := by
  refine dcall_mk orders Tryz.func187 rfl (by kernel_rfl) (fun d => d == 4) (by kernel_rfl) rfl (fun hs => ?_)
  simp [sizedL, Tr.sized, sized_dl, dl_length] at hs
  repeat' (first
    | (with_reducible first | refine sA ?_ ?_ | refine sB ?_ ?_ | refine sC ?_ ?_ | refine sD ?_ ?_ | refine sE ?_ ?_ | refine sF ?_ ?_) <;> intro h
    | simp only [go_sem, *])
  refine loop_mk (fun m s' => ∃ l', m = l'.length ∧ s'.sl 0 = .t (.sl nn (dl l')) ∧ hget s'.hp (4, 0) = some ⟨[.t (.sl false []), .t (.bool false)], 2, 1, tWInt, true, true⟩ ∧ strip l' = strip l ∧ l'.length ≤ l.length) l.length ⟨l, rfl, rfl, rfl, rfl, Nat.le_refl _⟩ ?_
  rintro _ s' ⟨l', rfl, h0, h4, hl, hle⟩ hfr G hG
  have c1 := hfr 1 (by kernel_rfl)
  have c4 := hfr 4 (by kernel_rfl)
  clear hfr
  simp only [go_sem] at c1 c4
  change _ = PV.ad (4, 0) 1 0 at c4
  rcases snoc_cases l' with rfl | ⟨a, x, rfl⟩
  · have f1 : decide (((0 : Nat) : Int) > 0) = false := rfl
    have hl' : strip l = [] := by rw [← hl]; rfl
    rw [hl']
    repeat' (first
      | (with_reducible first | refine sA ?_ ?_ | refine sB ?_ ?_ | refine sC ?_ ?_ | refine sD ?_ ?_ | refine sE ?_ ?_ | refine sF ?_ ?_) <;> intro h
      | simp only [go_sem, *])
    all_goals simp
  · have hle' : a.length + 1 ≤ l.length := by simpa using hle
    have f1 : decide (((a.length + 1 : Nat) : Int) > 0) = true := decide_eq_true (by omega)
    have f2 := wrap_len (n := a.length) (by omega)
    have f3 : (dl (a ++ [x])).length = a.length + 1 := by simp [dl_length]
    have f4 : (a ++ [x])[a.length]? = some x := by simp
    have f5 : (dl (a ++ [x])).take a.length = dl a := by simp [dl_take]
    have f6 : (x : Int) = 0 ↔ x = 0 := by omega
    rw [strip_snoc] at hl
    have f7 : (a.length : Int) ≤ ((a.length + 1 : Nat) : Int) := by omega
    by_cases hx : x = 0
    · subst hx
      rw [if_pos rfl] at hl
      have f8 : (((0 : Nat) : Int) == 0) = true := rfl
      repeat' (first
        | (with_reducible first | refine sA ?_ ?_ | refine sB ?_ ?_ | refine sC ?_ ?_ | refine sD ?_ ?_ | refine sE ?_ ?_ | refine sF ?_ ?_) <;> intro h
        | simp only [go_sem, *])
      refine hG _ _ (by simp) ⟨a, rfl, rfl, h4, hl, by omega⟩
    · rw [if_neg hx] at hl
      have f8 : ((x : Int) == 0) = false := by simpa using hx
      have f9 : (a ++ [x]).isEmpty = false := by simp
      rw [← hl]
      clear hl
      repeat' (first
        | (with_reducible first | refine sA ?_ ?_ | refine sB ?_ ?_ | refine sC ?_ ?_ | refine sD ?_ ?_ | refine sE ?_ ?_ | refine sF ?_ ?_) <;> intro h
        | simp only [go_sem, *])
      all_goals simp
attribute [go_sem] encI intC
theorem trim_d (nn : Bool) (l : List Nat) (neg : Bool) (h : okD l) : DCall Tryz.prog 187 [.sl nn (dl l), .bool neg] (encI nn (if neg then -(val l : Int) else val l)) := by
  have := trim_raw nn l neg
  rw [strip_digs h] at this
  have e : encI nn (if neg then -(val l : Int) else val l) = .agg [.sl nn (dl (digs (val l))), .bool (neg && !(digs (val l)).isEmpty)] := by
    unfold encI intC
    have e1 : (if neg then -(val l : Int) else val l).natAbs = val l := by cases neg <;> simp
    have e2 : decide ((if neg then -(val l : Int) else val l) < 0) = (neg && !(digs (val l)).isEmpty) := by
      cases neg
      · simp
      · by_cases hv : val l = 0
        · rw [hv]; simp [digs_zero]
        · have : (digs (val l)).isEmpty = false := by
            cases he : digs (val l) with
            | nil => exact absurd (digs_nil.1 he) hv
            | cons => rfl
          simp [this]; omega
    rw [e1, e2]
  rw [e]; exact this
theorem from_d (n : Nat) (hn : n < 18446744073709551616) : DCall Tryz.prog 104 [.int .u64 n] (encI true n) := by
  refine dcall_mk orders Tryz.func104 rfl (by kernel_rfl) (fun d => d == 2) (by kernel_rfl) rfl (fun hs => ?_)
  have h1 : n / 4294967296 % B = n / 4294967296 := Nat.mod_eq_of_lt (by rw [B_eq]; omega)
  have ht := trim_d true [n % B, n / 4294967296] false (by rw [okD_cons, okD_cons]; exact ⟨Nat.mod_lt _ B_pos, by rw [B_eq]; omega, okD_nil⟩)
  have hv : ((val [n % B, n / 4294967296] : Nat) : Int) = n := by
    have : val [n % B, n / 4294967296] = n := by simp only [val, B_eq]; omega
    rw [this]
  simp only [Bool.false_eq_true, if_false, hv] at ht
  repeat' (first
    | (with_reducible first | refine sA ?_ ?_ | refine sB ?_ ?_ | refine sC ?_ ?_ | refine sD ?_ ?_ | refine sE ?_ ?_ | refine sF ?_ ?_) <;> intro h
    | refine clK_mk (ht) rfl ?_
    | simp only [go_sem, *, wrap_u32])
def inI64 (z : Int) : Prop := -9223372036854775808 ≤ z ∧ z ≤ 9223372036854775807
theorem wrap_u64_neg {z : Int} (h : -9223372036854775808 ≤ z) (hz : z < 0) : IntKind.u64.wrap z = ((18446744073709551616 - z.natAbs : Nat) : Int) := by
  simp [IntKind.wrap, IntKind.bits, IntKind.signed]; omega
theorem wrap_u64_sub {n : Nat} (h : n ≤ 18446744073709551616) (h0 : 0 < n) : IntKind.u64.wrap (0 - ((18446744073709551616 - n : Nat) : Int)) = ((n % 18446744073709551616 : Nat) : Int) := by
  simp [IntKind.wrap, IntKind.bits, IntKind.signed]; omega
theorem wrap_u64_pos {z : Int} (h : z ≤ 9223372036854775807) (hz : 0 ≤ z) : IntKind.u64.wrap z = (z.natAbs : Int) := by
  simp [IntKind.wrap, IntKind.bits, IntKind.signed]; omega
theorem of_d (z : Int) (h : inI64 z) : DCall Tryz.prog 96 [i64 z] (encI true z) := by
  obtain ⟨h1, h2⟩ := h
  refine dcall_mk orders Tryz.func96 rfl (by kernel_rfl) (fun d => d == 2 || d == 3) (by kernel_rfl) rfl (fun hs => ?_)
  by_cases hz : z < 0
  · have f0 : decide (z < 0) = true := by simpa using hz
    have f1 := wrap_u64_neg h1 hz
    have f2 := wrap_u64_sub (n := z.natAbs) (by omega) (by omega)
    rw [Nat.mod_eq_of_lt (by omega)] at f2
    have f3 : (((z.natAbs : Nat) : Int)).natAbs = z.natAbs := by omega
    repeat' (first
      | (with_reducible first | refine sA ?_ ?_ | refine sB ?_ ?_ | refine sC ?_ ?_ | refine sD ?_ ?_ | refine sE ?_ ?_ | refine sF ?_ ?_) <;> intro h
      | refine clK_mk (from_d _ (show 18446744073709551616 - z.natAbs < 18446744073709551616 by omega)) rfl ?_
      | refine clK_mk (from_d z.natAbs (by omega)) rfl ?_
      | simp only [go_sem, *])
  · have f0 : decide (z < 0) = false := by simpa using hz
    have f1 := wrap_u64_pos h2 (by omega)
    have f3 : (((z.natAbs : Nat) : Int)).natAbs = z.natAbs := by omega
    have f4 : decide (((z.natAbs : Nat) : Int) < 0) = false := decide_eq_false (by omega)
    repeat' (first
      | (with_reducible first | refine sA ?_ ?_ | refine sB ?_ ?_ | refine sC ?_ ?_ | refine sD ?_ ?_ | refine sE ?_ ?_ | refine sF ?_ ?_) <;> intro h
      | refine clK_mk (from_d z.natAbs (by omega)) rfl ?_
      | simp only [go_sem, *])
theorem sign_d (nn : Bool) (z : Int) : DCall Tryz.prog 170 [encI nn z] (i64 z.sign) := by
  refine dcall_mk orders Tryz.func170 rfl (by kernel_rfl) noMu (by kernel_rfl) rfl (fun hs => ?_)
  by_cases h0 : z = 0
  · subst h0
    have f1 : (((digs (Int.natAbs 0)).length : Int) == 0) = true := by rw [show Int.natAbs 0 = 0 from rfl, digs_zero]; rfl
    repeat' (first
      | (with_reducible first | refine sA ?_ ?_ | refine sB ?_ ?_ | refine sC ?_ ?_ | refine sD ?_ ?_ | refine sE ?_ ?_ | refine sF ?_ ?_) <;> intro h
      | simp only [go_sem, *])
    rfl
  · have f1 : (((digs z.natAbs).length : Int) == 0) = false := by
      have : digs z.natAbs ≠ [] := fun e => h0 (by have := digs_nil.1 e; omega)
      cases he : digs z.natAbs with
      | nil => exact absurd he this
      | cons => simp; omega
    by_cases hz : z < 0
    · have f2 : decide (z < 0) = true := by simpa using hz
      repeat' (first
        | (with_reducible first | refine sA ?_ ?_ | refine sB ?_ ?_ | refine sC ?_ ?_ | refine sD ?_ ?_ | refine sE ?_ ?_ | refine sF ?_ ?_) <;> intro h
        | simp only [go_sem, *])
      simp [Int.sign_eq_neg_one_of_neg hz]
    · have f2 : decide (z < 0) = false := by simpa using hz
      repeat' (first
        | (with_reducible first | refine sA ?_ ?_ | refine sB ?_ ?_ | refine sC ?_ ?_ | refine sD ?_ ?_ | refine sE ?_ ?_ | refine sF ?_ ?_) <;> intro h
        | simp only [go_sem, *])
      simp [Int.sign_eq_one_of_pos (show 0 < z by omega)]
theorem neg_d (nn : Bool) (z : Int) : DCall Tryz.prog 178 [encI nn z] (encI nn (-z)) := by
  refine dcall_mk orders Tryz.func178 rfl (by kernel_rfl) (fun d => d == 2) (by kernel_rfl) rfl (fun hs => ?_)
  have ht := trim_d nn (digs z.natAbs) (!decide (z < 0)) (digs_ok _)
  rw [val_digs] at ht
  have e : (if (!decide (z < 0)) = true then -((z.natAbs : Nat) : Int) else ((z.natAbs : Nat) : Int)) = -z := by by_cases h : z < 0 <;> simp [h] <;> omega
  rw [e] at ht
  repeat' (first
    | (with_reducible first | refine sA ?_ ?_ | refine sB ?_ ?_ | refine sC ?_ ?_ | refine sD ?_ ?_ | refine sE ?_ ?_ | refine sF ?_ ?_) <;> intro h
    | refine clK_mk (ht) rfl ?_
    | simp only [go_sem, *])
theorem abs_d (nn : Bool) (z : Int) : DCall Tryz.prog 236 [encI nn z] (encI nn z.natAbs) := by
  refine dcall_mk orders Tryz.func236 rfl (by kernel_rfl) (fun d => d == 2) (by kernel_rfl) rfl (fun hs => ?_)
  have ht := trim_d nn (digs z.natAbs) false (digs_ok _)
  rw [val_digs] at ht
  repeat' (first
    | (with_reducible first | refine sA ?_ ?_ | refine sB ?_ ?_ | refine sC ?_ ?_ | refine sD ?_ ?_ | refine sE ?_ ?_ | refine sF ?_ ?_) <;> intro h
    | refine clK_mk (ht) rfl ?_
    | simp only [go_sem, *])
theorem add32_d (x y c : Nat) (hx : x < B) (hy : y < B) (hc : c ≤ 1) : DCall Tryz.prog 272 [u32 x, u32 y, u32 c] (.tup [u32 ((x + y + c) % B), u32 ((x + y + c) / B)]) := by
  rw [B_eq] at hx hy
  refine dcall_mk orders Tryz.func272 rfl (by kernel_rfl) noMu (by kernel_rfl) rfl (fun hs => ?_)
  have e1 : (x + y) % 18446744073709551616 = x + y := Nat.mod_eq_of_lt (by omega)
  have e2 : (x + y + c) % 18446744073709551616 = x + y + c := Nat.mod_eq_of_lt (by omega)
  have e3 : (x + y + c) / 4294967296 % B = (x + y + c) / B := by rw [B_eq]; omega
  have e4 := wrap_u64_lt (n := x) (by omega)
  have e5 := wrap_u64_lt (n := y) (by omega)
  have e6 := wrap_u64_lt (n := c) (by omega)
  repeat' (first
    | (with_reducible first | refine sA ?_ ?_ | refine sB ?_ ?_ | refine sC ?_ ?_ | refine sD ?_ ?_ | refine sE ?_ ?_ | refine sF ?_ ?_) <;> intro h
    | simp only [go_sem, *, u64_add, wrap_u32])
section
variable {P : Program} {h : Hp} (t : TypeId) (X Y : BitVec 32)
theorem wrap_bv (X : BitVec 32) : IntKind.u32.wrap (X.toNat : Int) = (X.toNat : Int) := wrap_u32_lt (by have := X.isLt; rw [B_eq]; omega)
theorem ofInt_toNat (X : BitVec 32) : BitVec.ofInt 32 (X.toNat : Int) = X := by
  apply BitVec.eq_of_toNat_eq
  have := X.isLt
  simp
theorem u32_not : unPV .xor (.t (.int .u32 (X.toNat : Int))) = some (.t (.int .u32 ((~~~X).toNat : Int))) := by
  have e1 : BitVec.ofInt IntKind.u32.bits (if IntKind.u32.signed = true then -1 else IntKind.u32.max) = BitVec.allOnes 32 := by
    show BitVec.ofInt 32 4294967295 = BitVec.allOnes 32
    decide
  have e2 : BitVec.ofInt IntKind.u32.bits (X.toNat : Int) = X := ofInt_toNat X
  have e3 : (BitVec.allOnes 32 ^^^ X) = ~~~X := BitVec.allOnes_xor
  simp only [unPV]
  rw [e1, e2]
  exact congrArg (fun z => some (PV.t (.int .u32 z))) ((congrArg (fun b : BitVec 32 => IntKind.u32.wrap (b.toNat : Int)) e3).trans (wrap_bv _))
theorem u32_and : binPV P h .and t (.t (.int .u32 (X.toNat : Int))) (.t (.int .u32 (Y.toNat : Int))) = some (.t (.int .u32 ((X &&& Y).toNat : Int))) := by
  rw [bin_and]
  have e1 : BitVec.ofInt IntKind.u32.bits (X.toNat : Int) = X := ofInt_toNat X
  have e2 : BitVec.ofInt IntKind.u32.bits (Y.toNat : Int) = Y := ofInt_toNat Y
  rw [e1, e2]
  exact congrArg (fun z => some (PV.t (.int .u32 z))) (wrap_bv _)
theorem u32_or : binPV P h .or t (.t (.int .u32 (X.toNat : Int))) (.t (.int .u32 (Y.toNat : Int))) = some (.t (.int .u32 ((X ||| Y).toNat : Int))) := by
  rw [bin_or]
  have e1 : BitVec.ofInt IntKind.u32.bits (X.toNat : Int) = X := ofInt_toNat X
  have e2 : BitVec.ofInt IntKind.u32.bits (Y.toNat : Int) = Y := ofInt_toNat Y
  rw [e1, e2]
  exact congrArg (fun z => some (PV.t (.int .u32 z))) (wrap_bv _)
theorem u32_xor : binPV P h .xor t (.t (.int .u32 (X.toNat : Int))) (.t (.int .u32 (Y.toNat : Int))) = some (.t (.int .u32 ((X ^^^ Y).toNat : Int))) := by
  rw [bin_xor]
  have e1 : BitVec.ofInt IntKind.u32.bits (X.toNat : Int) = X := ofInt_toNat X
  have e2 : BitVec.ofInt IntKind.u32.bits (Y.toNat : Int) = Y := ofInt_toNat Y
  rw [e1, e2]
  exact congrArg (fun z => some (PV.t (.int .u32 z))) (wrap_bv _)
theorem u32_sub : IntKind.u32.wrap ((X.toNat : Int) - (Y.toNat : Int)) = ((X - Y).toNat : Int) := by
  have h1 := X.isLt
  have h2 := Y.isLt
  simp [IntKind.wrap, IntKind.bits, IntKind.signed, BitVec.toNat_sub]; omega
end
theorem sub32_d (x y c : Nat) (hx : x < B) (hy : y < B) (hc : c ≤ 1) : DCall Tryz.prog 271 [u32 x, u32 y, u32 c] (.tup [u32 (sb x y c), u32 (bw x y c)]) := by
  unfold sb bw
  rw [B_eq] at hx hy
  obtain ⟨X, rfl⟩ : ∃ X : BitVec 32, x = X.toNat := ⟨BitVec.ofNat 32 x, by simp; omega⟩
  obtain ⟨Y, rfl⟩ : ∃ X : BitVec 32, y = X.toNat := ⟨BitVec.ofNat 32 y, by simp; omega⟩
  obtain ⟨C, rfl⟩ : ∃ X : BitVec 32, c = X.toNat := ⟨BitVec.ofNat 32 c, by simp; omega⟩
  have hD : (X - Y - C).toNat = (X.toNat + B - Y.toNat + B - C.toNat) % B := by
    have h1 := X.isLt
    have h2 := Y.isLt
    have h3 := C.isLt
    simp only [BitVec.toNat_sub, B_eq]; omega
  rw [← borrow32 X Y (X - Y - C) C.toNat hc (by rw [hD, B_eq]), ← hD]
  refine dcall_mk orders Tryz.func271 rfl (by kernel_rfl) noMu (by kernel_rfl) rfl (fun hs => ?_)
  clear hD
  repeat' (first
    | (with_reducible first | refine sA ?_ ?_ | refine sB ?_ ?_ | refine sC ?_ ?_ | refine sD ?_ ?_ | refine sE ?_ ?_ | refine sF ?_ ?_) <;> intro h
    | simp only [go_sem, *, u32_not, u32_and, u32_or, u32_xor, u32_sub])
theorem get_headD {l : List Nat} {k : Nat} (h : k < l.length) : l[k]? = some ((l.drop k).headD 0) := by
  rw [List.getElem?_eq_getElem h, List.drop_eq_getElem_cons h]; rfl
theorem drop_headD {l : List Nat} {k : Nat} (h : ¬ k < l.length) : (l.drop k).headD 0 = 0 := by
  rw [List.drop_eq_nil_of_le (by omega)]; rfl
theorem drop_tail (l : List Nat) (k : Nat) : (l.drop k).tail = l.drop (k + 1) := by rw [List.tail_drop]
@[go_sem] theorem rep_dl (n : Nat) : List.map (Tr.int .u32) (List.replicate n 0) = dl (List.replicate n 0) := by simp [dl]
@[go_sem] theorem map_dl_set (l : List Nat) (k x : Nat) : (dl l).set k (.int .u32 (x : Int)) = dl (l.set k x) := by simp [dl, List.map_set]
@[go_sem] theorem splice_dl {k : Nat} {cur : List Nat} {x : Nat} (hk : k < cur.length) : splice ((dl cur).map .t) k [.t (.int .u32 (x : Int))] = (dl (cur.set k x)).map .t := by
  rw [splice_def', ← map_dl_set, List.map_set]
  exact set_splice _ k _ (by simpa [dl_length] using hk)
theorem take_set_succ {α : Type} (l : List α) (k : Nat) (a : α) (hk : k < l.length) : (l.set k a).take (k + 1) = l.take k ++ [a] := by
  rw [List.take_add_one, List.getElem?_set_self hk, List.take_set_of_le (Nat.le_refl _)]; rfl
theorem toTr_set {h : Hp} {id : Id} {o : Obj} {l : List Tr} {esz n : Nat} {e : TypeId} {lv : Bool} (hg : hget h id = some o) : toTr (hset h id ⟨l.map .t, esz, n, e, false, lv⟩) dep (.rf id n) = some (.sl true l) :=
  toTr_ints (esz := esz) (e := e) (lv := lv) 5 (by simp [hget_hset, hg])
theorem mod_B (n : Nat) : n % B < B := Nat.mod_lt _ B_pos
theorem plus_go (an bn : Bool) (a b : List Nat) (ha : okD a) (hb : okD b) (hl : b.length ≤ a.length) (hla : a.length ≤ 1000000) : DCall Tryz.prog 243 [.sl an (dl a), .sl bn (dl b)] (.sl true (dl (addL a b 0))) := by
  refine dcall_mk orders Tryz.func243 rfl (by kernel_rfl) (fun d => d == 19) (by kernel_rfl) rfl (fun hs => ?_)
  obtain ⟨N, hN⟩ : ∃ N, N = a.length + 1 := ⟨_, rfl⟩
  have f1 : decide ((a.length : Int) < (b.length : Int)) = false := decide_eq_false (by omega)
  have f2 : IntKind.i64.wrap ((a.length : Int) + 1) = (N : Int) := by rw [hN]; exact wrap_succ (by omega)
  have hN1 : N ≤ a.length + 1 := by omega
  have hN2 : a.length + 1 ≤ N := by omega
  clear hN
  repeat' (first
    | (with_reducible first | refine sA ?_ ?_ | refine sB ?_ ?_ | refine sC ?_ ?_ | refine sD ?_ ?_ | refine sE ?_ ?_ | refine sF ?_ ?_) <;> intro h
    | simp only [go_sem, *])
  refine hpK_if ⟨by omega, by omega⟩ ?_
  repeat' (first
    | (with_reducible first | refine sA ?_ ?_ | refine sB ?_ ?_ | refine sC ?_ ?_ | refine sD ?_ ?_ | refine sE ?_ ?_ | refine sF ?_ ?_) <;> intro h
    | simp only [go_sem, *])
  refine loop_range a (fun k s' => ∃ (cur : List Nat) (c : Nat), s'.sl 6 = .t (u32 c) ∧ hget s'.hp (19, 0) = some ⟨(dl cur).map .t, 1, N, tU32, false, true⟩ ∧ cur.length = N ∧ c ≤ 1 ∧ addL a b 0 = cur.take k ++ addL (a.drop k) (b.drop k) c) rfl rfl (by first | assumption | omega) (by kernel_rfl) (fun _ _ _ _ hj => hj) (fun _ _ _ hj => hj) ?_ (fun k x s' hx hd hk hJ hix hfr G hG => ?_) (fun s' hJ hfr => ?_)
  · exact ⟨List.replicate N 0, 0, rfl, rfl, by simp, Nat.zero_le _, by simp⟩
  · have c0 := hfr 0 (by kernel_rfl)
    have c1 := hfr 1 (by kernel_rfl)
    have c5 := hfr 5 (by kernel_rfl)
    have c21 := hfr 21 (by kernel_rfl)
    clear hfr
    simp only [go_sem] at c0 c1 c5 c21
    change _ = PV.rf (19, 0) N at c5
    obtain ⟨cur, c, h6, h19, hcl, hc, hJ⟩ := hJ
    have hx' := List.mem_of_getElem? hx
    have hkc : k < cur.length := by omega
    have hkN : k < N := by omega
    have hkN1 : k + 1 ≤ N := hkN
    rw [hd, addL, drop_tail] at hJ
    by_cases hkb : k < b.length
    · have g1 : decide ((k : Int) < (b.length : Int)) = true := decide_eq_true (by omega)
      have g2 := get_headD hkb
      repeat' (first
        | (with_reducible first | refine sA ?_ ?_ | refine sB ?_ ?_ | refine sC ?_ ?_ | refine sD ?_ ?_ | refine sE ?_ ?_ | refine sF ?_ ?_) <;> intro h
        | refine clK_mk (add32_d x ((b.drop k).headD 0) c (ha x hx') (okD_head (okD_drop hb k)) hc) rfl ?_
        | simp only [go_sem, *])
      refine hG _ ⟨cur.set k ((x + (b.drop k).headD 0 + c) % B), (x + (b.drop k).headD 0 + c) / B, rfl, ?_, by simp [hcl], ?_, ?_⟩
      · simp only [go_sem, h19]
      · have h1 := ha x hx'
        have h2 := okD_head (okD_drop hb k)
        have := (Nat.div_lt_iff_lt_mul B_pos).2 (show x + (b.drop k).headD 0 + c < 2 * B by omega)
        omega
      · rw [take_set_succ _ _ _ hkc, hJ]; simp
    · have g1 : decide ((k : Int) < (b.length : Int)) = false := decide_eq_false (by omega)
      have g2 := drop_headD hkb
      rw [g2] at hJ
      repeat' (first
        | (with_reducible first | refine sA ?_ ?_ | refine sB ?_ ?_ | refine sC ?_ ?_ | refine sD ?_ ?_ | refine sE ?_ ?_ | refine sF ?_ ?_) <;> intro h
        | refine clK_mk (add32_d x 0 c (ha x hx') B_pos hc) rfl ?_
        | simp only [go_sem, *])
      refine hG _ ⟨cur.set k ((x + 0 + c) % B), (x + 0 + c) / B, rfl, ?_, by simp [hcl], ?_, ?_⟩
      · simp only [go_sem, h19]
      · have h1 := ha x hx'
        have := (Nat.div_lt_iff_lt_mul B_pos).2 (show x + 0 + c < 2 * B by omega)
        omega
      · rw [take_set_succ _ _ _ hkc, hJ]; simp
  · obtain ⟨cur, c, h6, h19, hcl, hc, hJ⟩ := hJ
    have c0 := hfr 0 (by kernel_rfl)
    have c5 := hfr 5 (by kernel_rfl)
    clear hfr
    simp only [go_sem] at c0 c5
    change _ = PV.rf (19, 0) N at c5
    have hkN : a.length < N := by omega
    have hkc : a.length < cur.length := by omega
    rw [List.drop_length, addL] at hJ
    have e : cur.set a.length c = cur.take a.length ++ [c] := by
      have := take_set_succ cur a.length c hkc
      rw [← this, List.take_of_length_le (by simp; omega)]
    rw [hJ, ← e]
    clear hJ
    repeat' (first
      | (with_reducible first | refine sA ?_ ?_ | refine sB ?_ ?_ | refine sC ?_ ?_ | refine sD ?_ ?_ | refine sE ?_ ?_ | refine sF ?_ ?_) <;> intro h
      | simp only [go_sem, *])
    exact toTr_set h19
theorem plus_swap (an bn : Bool) (a b : List Nat) (ha : okD a) (hb : okD b) (hl : a.length < b.length) (hla : b.length ≤ 1000000) : DCall Tryz.prog 243 [.sl an (dl a), .sl bn (dl b)] (.sl true (dl (addL b a 0))) := by
  refine dcall_mk orders Tryz.func243 rfl (by kernel_rfl) (fun d => d == 19) (by kernel_rfl) rfl (fun hs => ?_)
  obtain ⟨N, hN⟩ : ∃ N, N = b.length + 1 := ⟨_, rfl⟩
  have f1 : decide ((a.length : Int) < (b.length : Int)) = true := decide_eq_true (by omega)
  have f2 : IntKind.i64.wrap ((b.length : Int) + 1) = (N : Int) := by rw [hN]; exact wrap_succ (by omega)
  have hN1 : N ≤ b.length + 1 := by omega
  have hN2 : b.length + 1 ≤ N := by omega
  clear hN
  repeat' (first
    | (with_reducible first | refine sA ?_ ?_ | refine sB ?_ ?_ | refine sC ?_ ?_ | refine sD ?_ ?_ | refine sE ?_ ?_ | refine sF ?_ ?_) <;> intro h
    | simp only [go_sem, *])
  refine hpK_if ⟨by omega, by omega⟩ ?_
  repeat' (first
    | (with_reducible first | refine sA ?_ ?_ | refine sB ?_ ?_ | refine sC ?_ ?_ | refine sD ?_ ?_ | refine sE ?_ ?_ | refine sF ?_ ?_) <;> intro h
    | simp only [go_sem, *])
  refine loop_range b (fun k s' => ∃ (cur : List Nat) (c : Nat), s'.sl 6 = .t (u32 c) ∧ hget s'.hp (19, 0) = some ⟨(dl cur).map .t, 1, N, tU32, false, true⟩ ∧ cur.length = N ∧ c ≤ 1 ∧ addL b a 0 = cur.take k ++ addL (b.drop k) (a.drop k) c) rfl rfl (by first | assumption | omega) (by kernel_rfl) (fun _ _ _ _ hj => hj) (fun _ _ _ hj => hj) ?_ (fun k x s' hx hd hk hJ hix hfr G hG => ?_) (fun s' hJ hfr => ?_)
  · exact ⟨List.replicate N 0, 0, rfl, rfl, by simp, Nat.zero_le _, by simp⟩
  · have c0 := hfr 0 (by kernel_rfl)
    have c1 := hfr 1 (by kernel_rfl)
    have c5 := hfr 5 (by kernel_rfl)
    have c21 := hfr 21 (by kernel_rfl)
    clear hfr
    simp only [go_sem] at c0 c1 c5 c21
    change _ = PV.rf (19, 0) N at c5
    obtain ⟨cur, c, h6, h19, hcl, hc, hJ⟩ := hJ
    have hx' := List.mem_of_getElem? hx
    have hkc : k < cur.length := by omega
    have hkN : k < N := by omega
    have hkN1 : k + 1 ≤ N := hkN
    rw [hd, addL, drop_tail] at hJ
    by_cases hkb : k < a.length
    · have g1 : decide ((k : Int) < (a.length : Int)) = true := decide_eq_true (by omega)
      have g2 := get_headD hkb
      repeat' (first
        | (with_reducible first | refine sA ?_ ?_ | refine sB ?_ ?_ | refine sC ?_ ?_ | refine sD ?_ ?_ | refine sE ?_ ?_ | refine sF ?_ ?_) <;> intro h
        | refine clK_mk (add32_d x ((a.drop k).headD 0) c (hb x hx') (okD_head (okD_drop ha k)) hc) rfl ?_
        | simp only [go_sem, *])
      refine hG _ ⟨cur.set k ((x + (a.drop k).headD 0 + c) % B), (x + (a.drop k).headD 0 + c) / B, rfl, ?_, by simp [hcl], ?_, ?_⟩
      · simp only [go_sem, h19]
      · have h1 := hb x hx'
        have h2 := okD_head (okD_drop ha k)
        have := (Nat.div_lt_iff_lt_mul B_pos).2 (show x + (a.drop k).headD 0 + c < 2 * B by omega)
        omega
      · rw [take_set_succ _ _ _ hkc, hJ]; simp
    · have g1 : decide ((k : Int) < (a.length : Int)) = false := decide_eq_false (by omega)
      have g2 := drop_headD hkb
      rw [g2] at hJ
      repeat' (first
        | (with_reducible first | refine sA ?_ ?_ | refine sB ?_ ?_ | refine sC ?_ ?_ | refine sD ?_ ?_ | refine sE ?_ ?_ | refine sF ?_ ?_) <;> intro h
        | refine clK_mk (add32_d x 0 c (hb x hx') B_pos hc) rfl ?_
        | simp only [go_sem, *])
      refine hG _ ⟨cur.set k ((x + 0 + c) % B), (x + 0 + c) / B, rfl, ?_, by simp [hcl], ?_, ?_⟩
      · simp only [go_sem, h19]
      · have h1 := hb x hx'
        have := (Nat.div_lt_iff_lt_mul B_pos).2 (show x + 0 + c < 2 * B by omega)
        omega
      · rw [take_set_succ _ _ _ hkc, hJ]; simp
  · obtain ⟨cur, c, h6, h19, hcl, hc, hJ⟩ := hJ
    have c0 := hfr 0 (by kernel_rfl)
    have c5 := hfr 5 (by kernel_rfl)
    clear hfr
    simp only [go_sem] at c0 c5
    change _ = PV.rf (19, 0) N at c5
    have hkN : b.length < N := by omega
    have hkc : b.length < cur.length := by omega
    rw [List.drop_length, addL] at hJ
    have e : cur.set b.length c = cur.take b.length ++ [c] := by
      have := take_set_succ cur b.length c hkc
      rw [← this, List.take_of_length_le (by simp; omega)]
    rw [hJ, ← e]
    clear hJ
    repeat' (first
      | (with_reducible first | refine sA ?_ ?_ | refine sB ?_ ?_ | refine sC ?_ ?_ | refine sD ?_ ?_ | refine sE ?_ ?_ | refine sF ?_ ?_) <;> intro h
      | simp only [go_sem, *])
    exact toTr_set h19
theorem plus_d (an bn : Bool) (a b : List Nat) (ha : okD a) (hb : okD b) (hla : a.length ≤ 1000000) (hlb : b.length ≤ 1000000) : ∃ r, okD r ∧ val r = val a + val b ∧ DCall Tryz.prog 243 [.sl an (dl a), .sl bn (dl b)] (.sl true (dl r)) := by
  by_cases h : a.length < b.length
  · obtain ⟨h1, h2, _⟩ := addL_spec hb ha (Nat.zero_le 1) (Nat.le_of_lt h)
    exact ⟨_, h2, by omega, plus_swap an bn a b ha hb h hlb⟩
  · obtain ⟨h1, h2, _⟩ := addL_spec ha hb (Nat.zero_le 1) (by omega)
    exact ⟨_, h2, by omega, plus_go an bn a b ha hb (by omega) hla⟩
end YtajgclnahfmfmaaGreat
end Go.Vm
end
section
set_option linter.unusedSimpArgs false
set_option maxRecDepth 10000
namespace Go.Vm
open Go Go.Proofs Go.Whole
namespace YtajgclnahfmfmaaGreat
open Go.Proofs.Tryz
theorem minus_raw (an bn : Bool) (a b : List Nat) (ha : okD a) (hb : okD b) (hla : a.length ≤ 1000000) : DCall Tryz.prog 240 [.sl an (dl a), .sl bn (dl b)] (.sl true (dl (subL a b 0))) := by
  refine dcall_mk orders Tryz.func240 rfl (by kernel_rfl) (fun d => d == 11) (by kernel_rfl) rfl (fun hs => ?_)
  repeat' (first
    | (with_reducible first | refine sA ?_ ?_ | refine sB ?_ ?_ | refine sC ?_ ?_ | refine sD ?_ ?_ | refine sE ?_ ?_ | refine sF ?_ ?_) <;> intro h
    | simp only [go_sem, *])
  refine hpK_if ⟨by omega, by omega⟩ ?_
  repeat' (first
    | (with_reducible first | refine sA ?_ ?_ | refine sB ?_ ?_ | refine sC ?_ ?_ | refine sD ?_ ?_ | refine sE ?_ ?_ | refine sF ?_ ?_) <;> intro h
    | simp only [go_sem, *])
  refine loop_range a (fun k s' => ∃ (cur : List Nat) (c : Nat), s'.sl 6 = .t (u32 c) ∧ hget s'.hp (11, 0) = some ⟨(dl cur).map .t, 1, a.length, tU32, false, true⟩ ∧ cur.length = a.length ∧ c ≤ 1 ∧ subL a b 0 = cur.take k ++ subL (a.drop k) (b.drop k) c) rfl rfl (by first | assumption | omega) (by kernel_rfl) (fun _ _ _ _ hj => hj) (fun _ _ _ hj => hj) ?_ (fun k x s' hx hd hk hJ hix hfr G hG => ?_) (fun s' hJ hfr => ?_)
  · exact ⟨List.replicate a.length 0, 0, rfl, rfl, by simp, Nat.zero_le _, by simp⟩
  · have c0 := hfr 0 (by kernel_rfl)
    have c1 := hfr 1 (by kernel_rfl)
    have c5 := hfr 5 (by kernel_rfl)
    have c13 := hfr 13 (by kernel_rfl)
    clear hfr
    simp only [go_sem] at c0 c1 c5 c13
    change _ = PV.rf (11, 0) a.length at c5
    obtain ⟨cur, c, h6, h19, hcl, hc, hJ⟩ := hJ
    have hx' := List.mem_of_getElem? hx
    have hkc : k < cur.length := by omega
    have hkN1 : k + 1 ≤ a.length := hk
    rw [hd, subL, drop_tail] at hJ
    by_cases hkb : k < b.length
    · have g1 : decide ((k : Int) < (b.length : Int)) = true := decide_eq_true (by omega)
      have g2 := get_headD hkb
      repeat' (first
        | (with_reducible first | refine sA ?_ ?_ | refine sB ?_ ?_ | refine sC ?_ ?_ | refine sD ?_ ?_ | refine sE ?_ ?_ | refine sF ?_ ?_) <;> intro h
        | refine clK_mk (sub32_d x ((b.drop k).headD 0) c (ha x hx') (okD_head (okD_drop hb k)) hc) rfl ?_
        | simp only [go_sem, *])
      refine hG _ ⟨cur.set k (sb x ((b.drop k).headD 0) c), bw x ((b.drop k).headD 0) c, rfl, ?_, by simp [hcl], ?_, ?_⟩
      · simp only [go_sem, h19]
      · unfold bw; split <;> omega
      · rw [take_set_succ _ _ _ hkc, hJ]; simp
    · have g1 : decide ((k : Int) < (b.length : Int)) = false := decide_eq_false (by omega)
      have g2 := drop_headD hkb
      rw [g2] at hJ
      repeat' (first
        | (with_reducible first | refine sA ?_ ?_ | refine sB ?_ ?_ | refine sC ?_ ?_ | refine sD ?_ ?_ | refine sE ?_ ?_ | refine sF ?_ ?_) <;> intro h
        | refine clK_mk (sub32_d x 0 c (ha x hx') B_pos hc) rfl ?_
        | simp only [go_sem, *])
      refine hG _ ⟨cur.set k (sb x 0 c), bw x 0 c, rfl, ?_, by simp [hcl], ?_, ?_⟩
      · simp only [go_sem, h19]
      · unfold bw; split <;> omega
      · rw [take_set_succ _ _ _ hkc, hJ]; simp
  · obtain ⟨cur, c, h6, h19, hcl, hc, hJ⟩ := hJ
    have c5 := hfr 5 (by kernel_rfl)
    clear hfr
    simp only [go_sem] at c5
    change _ = PV.rf (11, 0) a.length at c5
    rw [List.drop_length, subL, List.append_nil, List.take_of_length_le (by omega)] at hJ
    rw [hJ]
    clear hJ
    repeat' (first
      | (with_reducible first | refine sA ?_ ?_ | refine sB ?_ ?_ | refine sC ?_ ?_ | refine sD ?_ ?_ | refine sE ?_ ?_ | refine sF ?_ ?_) <;> intro h
      | simp only [go_sem, *])
    exact toTr_ints 5 h19
theorem minus_d (an bn : Bool) (a b : List Nat) (ha : okD a) (hb : okD b) (hl : b.length ≤ a.length) (hv : val b ≤ val a) (hla : a.length ≤ 1000000) : ∃ r, okD r ∧ val r = val a - val b ∧ DCall Tryz.prog 240 [.sl an (dl a), .sl bn (dl b)] (.sl true (dl r)) := by
  obtain ⟨h1, h2, _⟩ := subL_val ha hb hl hv
  exact ⟨_, h2, h1, minus_raw an bn a b ha hb hla⟩
theorem compare_d (an bn : Bool) (a b : List Nat) (ha : okD a) (hb : okD b) (hla : a.length ≤ 1000000) (hlb : b.length ≤ 1000000) : DCall Tryz.prog 239 [.sl an (dl a), .sl bn (dl b)] (i64 (cmpD a b)) := by
  refine dcall_mk orders Tryz.func239 rfl (by kernel_rfl) noMu (by kernel_rfl) rfl (fun hs => ?_)
  by_cases hl : a.length = b.length
  · have f1 : ((a.length : Int) != (b.length : Int)) = false := by simp; omega
    have hl1 : a.length ≤ b.length := by omega
    have hl2 : b.length ≤ a.length := by omega
    have f2 : IntKind.i64.wrap ((a.length : Int) - 1) = (a.length : Int) - 1 := wrap_i64 (by omega) (by omega)
    have hcmp : cmpD a b = if val a < val b then -1 else if val b < val a then 1 else 0 := by unfold cmpD; rw [if_neg (by omega)]
    rw [hcmp]
    clear hcmp hl
    repeat' (first
      | (with_reducible first | refine sA ?_ ?_ | refine sB ?_ ?_ | refine sC ?_ ?_ | refine sD ?_ ?_ | refine sE ?_ ?_ | refine sF ?_ ?_) <;> intro h
      | simp only [go_sem, *])
    refine loop_mk (fun m s' => ∃ i : Nat, m = i ∧ i ≤ a.length ∧ s'.sl 5 = .t (i64 ((i : Int) - 1)) ∧ a.drop i = b.drop i) a.length ⟨a.length, rfl, Nat.le_refl _, rfl, by rw [List.drop_length, List.drop_eq_nil_of_le hl2]⟩ ?_
    rintro i s' ⟨_, rfl, hi, h5, hd⟩ hfr G hG
    have c0 := hfr 0 (by kernel_rfl)
    have c1 := hfr 1 (by kernel_rfl)
    clear hfr
    simp only [go_sem] at c0 c1
    cases i with
    | zero =>
      have g1 : decide ((((0 : Nat) : Int) - 1) ≥ 0) = false := rfl
      have he : a = b := by simpa using hd
      subst he
      have g2 : (if val a < val a then (-1 : Int) else if val a < val a then 1 else 0) = 0 := by simp
      rw [g2]
      repeat' (first
        | (with_reducible first | refine sA ?_ ?_ | refine sB ?_ ?_ | refine sC ?_ ?_ | refine sD ?_ ?_ | refine sE ?_ ?_ | refine sF ?_ ?_) <;> intro h
        | simp only [go_sem, *])
    | succ j =>
      have hj : j < a.length := by omega
      have hjb : j < b.length := by omega
      have e0 : (((j + 1 : Nat) : Int) - 1) = (j : Int) := by omega
      rw [e0] at h5
      have g1 : decide (((j : Nat) : Int) ≥ 0) = true := by simp
      have g2 : a[j]? = some a[j] := List.getElem?_eq_getElem hj
      have g3 : b[j]? = some b[j] := List.getElem?_eq_getElem hjb
      have g4 : IntKind.i64.wrap ((j : Int) - 1) = (j : Int) - 1 := wrap_i64 (by omega) (by omega)
      by_cases hx : a[j] = b[j]
      · rw [hx] at g2
        have g5 : (((b[j] : Nat) : Int) != ((b[j] : Nat) : Int)) = false := by simp
        have hda : a.drop j = b.drop j := by rw [List.drop_eq_getElem_cons hj, List.drop_eq_getElem_cons hjb, hd, hx]
        clear hx hd
        repeat' (first
          | (with_reducible first | refine sA ?_ ?_ | refine sB ?_ ?_ | refine sC ?_ ?_ | refine sD ?_ ?_ | refine sE ?_ ?_ | refine sF ?_ ?_) <;> intro h
          | simp only [go_sem, *])
        refine hG _ _ (Nat.lt_succ_self j) ⟨j, rfl, by omega, rfl, hda⟩
      · have g5 : (((a[j] : Nat) : Int) != ((b[j] : Nat) : Int)) = true := by simpa using fun h => hx (by omega)
        by_cases hlt : a[j] < b[j]
        · have g6 : decide (((a[j] : Nat) : Int) < ((b[j] : Nat) : Int)) = true := by simpa using hlt
          have hv := val_lt_of_drop ha hb (by omega) hj hd (by simpa [hj, hjb] using hlt)
          rw [if_pos hv]
          repeat' (first
            | (with_reducible first | refine sA ?_ ?_ | refine sB ?_ ?_ | refine sC ?_ ?_ | refine sD ?_ ?_ | refine sE ?_ ?_ | refine sF ?_ ?_) <;> intro h
            | simp only [go_sem, *])
        · have g6 : decide (((a[j] : Nat) : Int) < ((b[j] : Nat) : Int)) = false := by simpa using hlt
          have hv := val_lt_of_drop hb ha (by omega) hjb hd.symm (by simpa [hj, hjb] using (show b[j] < a[j] by omega))
          rw [if_neg (by omega), if_pos hv]
          repeat' (first
            | (with_reducible first | refine sA ?_ ?_ | refine sB ?_ ?_ | refine sC ?_ ?_ | refine sD ?_ ?_ | refine sE ?_ ?_ | refine sF ?_ ?_) <;> intro h
            | simp only [go_sem, *])
  · have f1 : ((a.length : Int) != (b.length : Int)) = true := by simpa using fun h => hl (by omega)
    have f2 : IntKind.i64.wrap ((a.length : Int) - (b.length : Int)) = (a.length : Int) - (b.length : Int) := wrap_i64 (by omega) (by omega)
    have hcmp : cmpD a b = (a.length : Int) - b.length := by unfold cmpD; rw [if_pos hl]
    rw [hcmp]
    repeat' (first
      | (with_reducible first | refine sA ?_ ?_ | refine sB ?_ ?_ | refine sC ?_ ?_ | refine sD ?_ ?_ | refine sE ?_ ?_ | refine sF ?_ ?_) <;> intro h
      | simp only [go_sem, *])
def fits (z : Int) : Prop := (digs z.natAbs).length ≤ 400000
theorem fits.le {z : Int} (h : fits z) : (digs z.natAbs).length ≤ 1000000 := Nat.le_trans h (by decide)
theorem fits_mono {x y : Int} (h : x.natAbs ≤ y.natAbs) (hy : fits y) : fits x := Nat.le_trans (digs_length_mono h) hy
theorem add_d (xn yn : Bool) (x y : Int) (hx : fits x) (hy : fits y) : DCall Tryz.prog 186 [encI xn x, encI yn y] (encI true (x + y)) := by
  replace hx := hx.le
  replace hy := hy.le
  by_cases hs : decide (x < 0) = decide (y < 0)
  · obtain ⟨r, h1, h2, h3⟩ := plus_d xn yn (digs x.natAbs) (digs y.natAbs) (digs_ok _) (digs_ok _) hx hy
    have ht := trim_d true r (decide (x < 0)) h1
    rw [h2, val_digs, val_digs] at ht
    have e : (if decide (x < 0) = true then -((x.natAbs + y.natAbs : Nat) : Int) else ((x.natAbs + y.natAbs : Nat) : Int)) = x + y := by
      by_cases h : x < 0
      · have : y < 0 := by simpa [h] using hs
        simp [h]; omega
      · have : ¬ y < 0 := by simpa [h] using hs
        simp [h]; omega
    rw [e] at ht
    have hb : (decide (x < 0) == decide (y < 0)) = true := by simpa using hs
    clear hs
    refine dcall_mk orders Tryz.func186 rfl (by kernel_rfl) (fun d => d == 4) (by kernel_rfl) rfl (fun hs => ?_)
    repeat' (first
      | (with_reducible first | refine sA ?_ ?_ | refine sB ?_ ?_ | refine sC ?_ ?_ | refine sD ?_ ?_ | refine sE ?_ ?_ | refine sF ?_ ?_) <;> intro h
      | refine clK_mk (h3) rfl ?_
      | refine clK_mk (ht) rfl ?_
      | simp only [go_sem, *])
  · have hb : (decide (x < 0) == decide (y < 0)) = false := by simpa using hs
    have hc := compare_d xn yn (digs x.natAbs) (digs y.natAbs) (digs_ok _) (digs_ok _) hx hy
    by_cases hle : y.natAbs ≤ x.natAbs
    · obtain ⟨r, h1, h2, h3⟩ := minus_d xn yn (digs x.natAbs) (digs y.natAbs) (digs_ok _) (digs_ok _) (digs_length_mono hle) (by rw [val_digs, val_digs]; exact hle) hx
      have ht := trim_d true r (decide (x < 0)) h1
      rw [h2, val_digs, val_digs] at ht
      have e : (if decide (x < 0) = true then -((x.natAbs - y.natAbs : Nat) : Int) else ((x.natAbs - y.natAbs : Nat) : Int)) = x + y := by
        by_cases h : x < 0
        · have : ¬ y < 0 := by simpa [h] using hs
          simp [h]; omega
        · have : y < 0 := by simpa [h] using hs
          simp [h]; omega
      rw [e] at ht
      have hg : decide (cmpD (digs x.natAbs) (digs y.natAbs) ≥ 0) = true := decide_eq_true ((cmpD_digs _ _).2 hle)
      refine dcall_mk orders Tryz.func186 rfl (by kernel_rfl) (fun d => d == 4) (by kernel_rfl) rfl (fun hs => ?_)
      repeat' (first
        | (with_reducible first | refine sA ?_ ?_ | refine sB ?_ ?_ | refine sC ?_ ?_ | refine sD ?_ ?_ | refine sE ?_ ?_ | refine sF ?_ ?_) <;> intro h
        | refine clK_mk (hc) rfl ?_
        | refine clK_mk (h3) rfl ?_
        | refine clK_mk (ht) rfl ?_
        | simp only [go_sem, *])
    · obtain ⟨r, h1, h2, h3⟩ := minus_d yn xn (digs y.natAbs) (digs x.natAbs) (digs_ok _) (digs_ok _) (digs_length_mono (by omega)) (by rw [val_digs, val_digs]; omega) hy
      have ht := trim_d true r (decide (y < 0)) h1
      rw [h2, val_digs, val_digs] at ht
      have e : (if decide (y < 0) = true then -((y.natAbs - x.natAbs : Nat) : Int) else ((y.natAbs - x.natAbs : Nat) : Int)) = x + y := by
        by_cases h : y < 0
        · have : ¬ x < 0 := fun h2 => hs (by simp [h, h2])
          simp [h]; omega
        · have : x < 0 := Decidable.byContradiction fun h2 => hs (by simp [h, h2])
          simp [h]; omega
      rw [e] at ht
      have hg : decide (cmpD (digs x.natAbs) (digs y.natAbs) ≥ 0) = false := decide_eq_false (fun h => hle ((cmpD_digs _ _).1 h))
      refine dcall_mk orders Tryz.func186 rfl (by kernel_rfl) (fun d => d == 4) (by kernel_rfl) rfl (fun hs => ?_)
      repeat' (first
        | (with_reducible first | refine sA ?_ ?_ | refine sB ?_ ?_ | refine sC ?_ ?_ | refine sD ?_ ?_ | refine sE ?_ ?_ | refine sF ?_ ?_) <;> intro h
        | refine clK_mk (hc) rfl ?_
        | refine clK_mk (h3) rfl ?_
        | refine clK_mk (ht) rfl ?_
        | simp only [go_sem, *])
theorem sub_d (xn yn : Bool) (x y : Int) (hx : fits x) (hy : fits y) : DCall Tryz.prog 188 [encI xn x, encI yn y] (encI true (x - y)) := by
  rw [Int.sub_eq_add_neg]
  have hy' : fits (-y) := fits_mono (by omega) hy
  refine dcall_mk orders Tryz.func188 rfl (by kernel_rfl) (fun d => d == 4) (by kernel_rfl) rfl (fun hs => ?_)
  repeat' (first
    | (with_reducible first | refine sA ?_ ?_ | refine sB ?_ ?_ | refine sC ?_ ?_ | refine sD ?_ ?_ | refine sE ?_ ?_ | refine sF ?_ ?_) <;> intro h
    | refine clK_mk (neg_d yn y) rfl ?_
    | refine clK_mk (add_d xn yn x (-y) hx hy') rfl ?_
    | simp only [go_sem, *])
theorem cmp_d (xn yn : Bool) (x y : Int) (hx : fits x) (hy : fits y) : DCall Tryz.prog 105 [encI xn x, encI yn y] (i64 (x - y).sign) := by
  refine dcall_mk orders Tryz.func105 rfl (by kernel_rfl) noMu (by kernel_rfl) rfl (fun hs => ?_)
  repeat' (first
    | (with_reducible first | refine sA ?_ ?_ | refine sB ?_ ?_ | refine sC ?_ ?_ | refine sD ?_ ?_ | refine sE ?_ ?_ | refine sF ?_ ?_) <;> intro h
    | refine clK_mk (sub_d xn yn x y hx hy) rfl ?_
    | refine clK_mk (sign_d true (x - y)) rfl ?_
    | simp only [go_sem, *])
end YtajgclnahfmfmaaGreat
end Go.Vm
end
section
set_option linter.unusedSimpArgs false
set_option maxRecDepth 10000
namespace Go.Vm
open Go Go.Proofs Go.Whole
namespace YtajgclnahfmfmaaGreat
open Go.Proofs.Tryz
theorem macL_ne (a : Nat) (y o : List Nat) (c : Nat) : macL a y o c ≠ [] := by cases y <;> simp [macL]
theorem mac_room {a b c x : Nat} (ha : a < B) (hb : b < B) (hc : c < B) (hx : x < B) : c + (a * b + x) < 18446744073709551616 ∧ (c + a * b + x) / B < B ∧ a * b < 18446744073709551616 ∧ a * b + x < 18446744073709551616 := by
  have hab : a * b ≤ (B - 1) * (B - 1) := Nat.mul_le_mul (by omega) (by omega)
  have e1 : (B - 1) * (B - 1) = 18446744065119617025 := by decide
  refine ⟨?_, ?_, ?_, ?_⟩
  · rw [B_eq] at hc hx; omega
  · rw [Nat.div_lt_iff_lt_mul B_pos]
    have : B * B = 18446744073709551616 := by decide
    rw [B_eq] at hc hx; omega
  · omega
  · rw [B_eq] at hx; omega
theorem okD_set {l : List Nat} (h : okD l) {k v : Nat} (hv : v < B) : okD (l.set k v) := fun d hd => by
  rcases List.mem_or_eq_of_mem_set hd with h1 | h1
  · exact h d h1
  · rw [h1]; exact hv
theorem drop_set_gt {l : List Nat} {k v : Nat} : (l.set k v).drop (k + 1) = l.drop (k + 1) := by
  rw [List.drop_set_of_lt (by omega)]
theorem mul_raw (xn yn : Bool) (X Y : List Nat) (sx sy : Bool) (z : Int) (hX : okD X) (hY : okD Y) (hx1 : X.length ≤ 1000000) (hy1 : Y.length ≤ 1000000)
    (hres : DCall Tryz.prog 187 [.sl true (dl (mulL X Y (List.replicate (X.length + Y.length) 0))), .bool (sx != sy)] (encI true z)) :
    DCall Tryz.prog 106 [.agg [.sl xn (dl X), .bool sx], .agg [.sl yn (dl Y), .bool sy]] (encI true z) := by
  refine dcall_mk orders Tryz.func106 rfl (by kernel_rfl) (fun d => d == 4 || d == 18) (by kernel_rfl) rfl (fun hs => ?_)
  clear hs
  obtain ⟨L, hL⟩ : ∃ L, L = X.length + Y.length := ⟨_, rfl⟩
  rw [← hL] at hres
  have f1 : IntKind.i64.wrap ((X.length : Int) + (Y.length : Int)) = (L : Int) := by rw [hL, ← Int.natCast_add]; exact wrap_i64 (by omega) (by omega)
  have hL1 : L ≤ X.length + Y.length := by omega
  have hL2 : X.length + Y.length ≤ L := by omega
  clear hL
  repeat' (first
    | (with_reducible first | refine sA ?_ ?_ | refine sB ?_ ?_ | refine sC ?_ ?_ | refine sD ?_ ?_ | refine sE ?_ ?_ | refine sF ?_ ?_) <;> intro h
    | simp only [go_sem, *])
  refine hpK_if ⟨by omega, by omega⟩ ?_
  repeat' (first
    | (with_reducible first | refine sA ?_ ?_ | refine sB ?_ ?_ | refine sC ?_ ?_ | refine sD ?_ ?_ | refine sE ?_ ?_ | refine sF ?_ ?_) <;> intro h
    | simp only [go_sem, *])
  refine loop_range X (fun k s' => ∃ cur : List Nat, hget s'.hp (18, 0) = some ⟨(dl cur).map .t, 1, L, tU32, false, true⟩ ∧ hget s'.hp (4, 0) = some ⟨[.t (.sl false []), .t (.bool false)], 2, 1, tWInt, true, true⟩ ∧ cur.length = L ∧ okD cur ∧ mulL X Y (List.replicate L 0) = cur.take k ++ mulL (X.drop k) Y (cur.drop k)) rfl rfl (by first | assumption | omega) (by kernel_rfl) (fun _ _ _ _ hj => hj) (fun _ _ _ hj => hj) ?_ (fun k x s' hx hd hk hJ hix hfr G hG => ?_) (fun s' hJ hfr => ?_)
  · exact ⟨List.replicate L 0, rfl, rfl, by simp, okD_zeros L, by simp⟩
  · have c3 := hfr 3 (by kernel_rfl)
    have c4 := hfr 4 (by kernel_rfl)
    have c5 := hfr 5 (by kernel_rfl)
    have c20 := hfr 20 (by kernel_rfl)
    clear hfr
    simp only [go_sem] at c3 c4 c5 c20
    change _ = PV.rf (18, 0) L at c5
    change _ = PV.ad (4, 0) 1 0 at c4
    obtain ⟨cur, h18, h4, hcl, hco, hJ⟩ := hJ
    rw [hd, mulL] at hJ
    have hxB := hX x (List.mem_of_getElem? hx)
    have e3 := c3
    have e4 := c4
    have e5 := c5
    obtain ⟨i, hik⟩ : ∃ i, i = k := ⟨_, rfl⟩
    subst hik
    obtain ⟨a, hax⟩ : ∃ a, a = x := ⟨_, rfl⟩
    subst hax
    have hki : i + Y.length < cur.length := by omega
    have hk1 : (macL a Y (cur.drop i) 0) ≠ [] := macL_ne _ _ _ _
    repeat' (first
      | (with_reducible first | refine sA ?_ ?_ | refine sB ?_ ?_ | refine sC ?_ ?_ | refine sD ?_ ?_ | refine sE ?_ ?_ | refine sF ?_ ?_) <;> intro h
      | simp only [go_sem, *])
    refine loop_range Y (fun k s' => ∃ (o : List Nat) (c : Nat), s'.sl 8 = .t (.int .u64 (c : Int)) ∧ hget s'.hp (18, 0) = some ⟨(dl o).map .t, 1, L, tU32, false, true⟩ ∧ hget s'.hp (4, 0) = some ⟨[.t (.sl false []), .t (.bool false)], 2, 1, tWInt, true, true⟩ ∧ o.length = L ∧ okD o ∧ c < B ∧ cur.take i ++ macL a Y (cur.drop i) 0 = o.take (i + k) ++ macL a (Y.drop k) (o.drop (i + k)) c) rfl rfl (by first | assumption | omega) (by kernel_rfl) (fun _ _ _ _ hj => hj) (fun _ _ _ hj => hj) ?_ (fun k x s' hx hd hk hJ hix hfr G hG => ?_) (fun s' hJ hfr => ?_)
    · exact ⟨cur, 0, rfl, h18, h4, hcl, hco, B_pos, rfl⟩
    · have c5 := hfr 5 (by kernel_rfl)
      have c6 := hfr 6 (by kernel_rfl)
      have c7 := hfr 7 (by kernel_rfl)
      have c28 := hfr 28 (by kernel_rfl)
      clear hfr
      simp only [go_sem] at c5 c6 c7 c28
      obtain ⟨o, c, h8, h18, h4, hol, hoo, hcB, hJ2⟩ := hJ
      rw [e5] at c5
      have hxB2 := hY x (List.mem_of_getElem? hx)
      have hio : i + k < o.length := by omega
      have hio1 : i + k < L := by omega
      have hio2 : i + k + 1 ≤ L := hio1
      have g1 : IntKind.i64.wrap ((i : Int) + (k : Int)) = ((i + k : Nat) : Int) := by rw [← Int.natCast_add]; exact wrap_i64 (by omega) (by omega)
      have g2 := get_headD hio
      have hoB := okD_head (okD_drop hoo (i + k))
      rw [hd, macL, drop_tail] at hJ2
      generalize (o.drop (i + k)).headD 0 = u at *
      obtain ⟨r1, r2, r3, r4⟩ := mac_room hxB hxB2 hcB hoB
      have w1 := wrap_u64_lt (n := a) (by rw [B_eq] at hxB; omega)
      have w2 := wrap_u64_lt (n := x) (by rw [B_eq] at hxB2; omega)
      have w3 := wrap_u64_lt (n := u) (by rw [B_eq] at hoB; omega)
      have w4 := u64_mul a x
      rw [Nat.mod_eq_of_lt r3] at w4
      have w5 := u64_add (a * x) u
      rw [Nat.mod_eq_of_lt r4] at w5
      have w6 := u64_add c (a * x + u)
      rw [Nat.mod_eq_of_lt r1, ← Nat.add_assoc] at w6
      have w7 := wrap_u32 (c + a * x + u)
      have w8 : (c + a * x + u) / 4294967296 = (c + a * x + u) / B := rfl
      repeat' (first
        | (with_reducible first | refine sA ?_ ?_ | refine sB ?_ ?_ | refine sC ?_ ?_ | refine sD ?_ ?_ | refine sE ?_ ?_ | refine sF ?_ ?_) <;> intro h
        | simp only [go_sem, *])
      refine hG _ ⟨o.set (i + k) ((c + a * x + u) % B), (c + a * x + u) / B, rfl, ?_, ?_, by simp [hol], okD_set hoo (Nat.mod_lt _ B_pos), r2, ?_⟩
      · simp only [go_sem, h18]
      · simp only [go_sem, h4]
      · rw [← Nat.add_assoc, take_set_succ _ _ _ hio, drop_set_gt, hJ2]; simp
    · obtain ⟨o, c, h8, h18, h4, hol, hoo, hcB, hJ2⟩ := hJ
      have c3 := hfr 3 (by kernel_rfl)
      have c5 := hfr 5 (by kernel_rfl)
      have c6 := hfr 6 (by kernel_rfl)
      clear hfr
      simp only [go_sem] at c3 c5 c6
      rw [e5] at c5
      rw [e3] at c3
      have hio : i + Y.length < o.length := by omega
      have hio1 : i + Y.length < L := by omega
      have hio2 : i + Y.length + 1 ≤ L := hio1
      have g1 : IntKind.i64.wrap ((i : Int) + (Y.length : Int)) = ((i + Y.length : Nat) : Int) := by rw [← Int.natCast_add]; exact wrap_i64 (by omega) (by omega)
      have w7 := wrap_u32_lt hcB
      have w8 := Nat.mod_eq_of_lt hcB
      rw [List.drop_length, macL, w8, List.tail_drop] at hJ2
      have hset : cur.take i ++ macL a Y (cur.drop i) 0 = o.set (i + Y.length) c := by
        rw [hJ2, ← List.take_append_drop (i + Y.length + 1) (o.set (i + Y.length) c), take_set_succ _ _ _ hio, drop_set_gt]; simp
      have hti : (cur.take i).length = i := by rw [List.length_take]; omega
      obtain ⟨m0, ms, hm⟩ := List.exists_cons_of_ne_nil hk1
      rw [hm] at hset hJ
      have ht : (o.set (i + Y.length) c).take (i + 1) = cur.take i ++ [m0] := by
        rw [← hset, show cur.take i ++ m0 :: ms = (cur.take i ++ [m0]) ++ ms by simp]
        exact List.take_left' (by simp [hti])
      have hdr : (o.set (i + Y.length) c).drop (i + 1) = ms := by
        rw [← hset, show cur.take i ++ m0 :: ms = (cur.take i ++ [m0]) ++ ms by simp]
        exact List.drop_left' (by simp [hti])
      clear hm hk1 hset
      repeat' (first
        | (with_reducible first | refine sA ?_ ?_ | refine sB ?_ ?_ | refine sC ?_ ?_ | refine sD ?_ ?_ | refine sE ?_ ?_ | refine sF ?_ ?_) <;> intro h
        | simp only [go_sem, *])
      refine hG _ ⟨o.set (i + Y.length) c, ?_, ?_, by simp [hol], okD_set hoo hcB, ?_⟩
      · simp only [go_sem, h18]
      · simp only [go_sem, h4]
      · rw [ht, hdr, hJ]; simp
  · obtain ⟨cur, h18, h4, hcl, hco, hJ⟩ := hJ
    have c2 := hfr 2 (by kernel_rfl)
    have c3 := hfr 3 (by kernel_rfl)
    have c4 := hfr 4 (by kernel_rfl)
    have c5 := hfr 5 (by kernel_rfl)
    clear hfr
    simp only [go_sem] at c2 c3 c4 c5
    change _ = PV.rf (18, 0) L at c5
    change _ = PV.ad (4, 0) 1 0 at c4
    rw [List.drop_length, mulL, List.take_append_drop] at hJ
    rw [hJ] at hres
    have hdep := toTr_ints 5 h18
    change toTr s'.hp dep _ = _ at hdep
    repeat' (first
      | (with_reducible first | refine sA ?_ ?_ | refine sB ?_ ?_ | refine sC ?_ ?_ | refine sD ?_ ?_ | refine sE ?_ ?_ | refine sF ?_ ?_) <;> intro h
      | simp only [go_sem, *])
    refine clK_fz hres (by simp only [go_sem, hdep]) rfl ?_
    have hfz := frz_row (m := L) h18 h4 rfl
    repeat' (first
      | (with_reducible first | refine sA ?_ ?_ | refine sB ?_ ?_ | refine sC ?_ ?_ | refine sD ?_ ?_ | refine sE ?_ ?_ | refine sF ?_ ?_) <;> intro h
      | simp only [go_sem, *])
theorem mul_d (xn yn : Bool) (x y : Int) (hx : fits x) (hy : fits y) : DCall Tryz.prog 106 [encI xn x, encI yn y] (encI true (x * y)) := by
  obtain ⟨h1, h2⟩ := mulL_spec (digs_ok x.natAbs) (digs_ok y.natAbs) (okD_zeros ((digs x.natAbs).length + (digs y.natAbs).length)) (by simp) (fun d hd => (List.mem_replicate.1 (List.mem_of_mem_drop hd)).2)
  have ht := trim_d true _ (decide (x < 0) != decide (y < 0)) h2
  rw [h1, val_zeros, val_digs, val_digs, Nat.add_zero] at ht
  have e : (if (decide (x < 0) != decide (y < 0)) = true then -((x.natAbs * y.natAbs : Nat) : Int) else ((x.natAbs * y.natAbs : Nat) : Int)) = x * y := by
    rw [Int.natCast_mul]
    by_cases h1 : x < 0
    · have e1 : ((x.natAbs : Nat) : Int) = -x := by omega
      by_cases h2 : y < 0
      · have e2 : ((y.natAbs : Nat) : Int) = -y := by omega
        simp [h1, h2, e1, e2, Int.neg_mul, Int.mul_neg]
      · have e2 : ((y.natAbs : Nat) : Int) = y := by omega
        simp [h1, h2, e1, e2, Int.neg_mul, Int.mul_neg]
    · have e1 : ((x.natAbs : Nat) : Int) = x := by omega
      by_cases h2 : y < 0
      · have e2 : ((y.natAbs : Nat) : Int) = -y := by omega
        simp [h1, h2, e1, e2, Int.neg_mul, Int.mul_neg]
      · have e2 : ((y.natAbs : Nat) : Int) = y := by omega
        simp [h1, h2, e1, e2, Int.neg_mul, Int.mul_neg]
  rw [e] at ht
  exact mul_raw xn yn _ _ _ _ _ (digs_ok _) (digs_ok _) hx.le hy.le ht
end YtajgclnahfmfmaaGreat
end Go.Vm
end
