/- The abstract machine: walks of functions that share their caller's heap. -/
import Derived.Test.YtajgclnahfmfmaaVmH
namespace Go.Vm
open Go

section
variable {P : Program} {mu : Nat → Bool} {F : Ex → St → Prop} {r : List Item} {s : St} {h : Hp}

@[go_sem] theorem un_t (x : Tr) : (PV.t x).un = x.pv := nrfl rfl
@[go_sem] theorem un_rf (id : Id) (n : Nat) : (PV.rf id n).un = .rf id n := nrfl rfl
@[go_sem] theorem un_ad (id : Id) (n off : Nat) : (PV.ad id n off).un = .ad id n off := nrfl rfl
@[go_sem] theorem un_ro (cs : List Tr) : (PV.ro cs).un = .ro cs := nrfl rfl
@[go_sem] theorem un_fn (f : FuncId) (l : List PV) : (PV.fn f l).un = .fn f l := nrfl rfl
@[go_sem] theorem un_agg (l : List PV) : (PV.agg l).un = .agg l := nrfl rfl
@[go_sem] theorem initSlI_app (args : List PV) (t : Nat) : initSlI args t = (match args[t]? with | some x => x.un | none => .undef) := nrfl rfl
@[go_sem] theorem initStI_sl (args : List PV) (h : Hp) : (initStI args h).sl = initSlI args := nrfl rfl
@[go_sem] theorem initStI_hp (args : List PV) (h : Hp) : (initStI args h).hp = h := nrfl rfl

/-! the end -/
def endX (x : Option PV) (Q : PV → Hp → Prop) (h : Hp) : Prop := match x with | some r => Q r h | none => False
@[go_sem] theorem endX_some (x : PV) (Q : PV → Hp → Prop) (h : Hp) : endX (some x) Q h = Q x h := nrfl rfl
theorem endX_eq (x : Option PV) (Q : PV → Hp → Prop) (h : Hp) : (∃ r, x = some r ∧ Q r h) = endX x Q h := by
  cases x <;> simp [endX]
@[go_sem] theorem endI_ret (fn : Func) (Q : PV → Hp → Prop) : endI P fn Q .ret s = endX (resI P s fn.results.toList) Q s.hp := endX_eq _ _ _
@[go_sem] theorem endI_normal (fn : Func) (Q : PV → Hp → Prop) : endI P fn Q .normal s = endX (resI P s fn.results.toList) Q s.hp := endX_eq _ _ _
def tupI (l : Option (List PV)) : Option PV := match l with | some ts => some (mkTup ts) | none => none
@[go_sem] theorem tupI_some (l : List PV) : tupI (some l) = some (mkTup l) := nrfl rfl
theorem resI_eq (l : List ResultVar) : resI P s l = (match mapO (resPV P s) l with | some [x] => some x | some ts => some (mkTup ts) | none => none) := rfl
@[go_sem] theorem resI_one (a : ResultVar) : resI P s [a] = resPV P s a := by
  rw [resI_eq]; simp only [mapO]; cases resPV P s a <;> rfl
@[go_sem] theorem resI_more (a b : ResultVar) (l : List ResultVar) : resI P s (a :: b :: l) = tupI (mapO (resPV P s) (a :: b :: l)) := by
  rw [resI_eq]; simp only [mapO]; cases resPV P s a <;> cases resPV P s b <;> cases mapO (resPV P s) l <;> rfl
@[go_sem] theorem resI_nil : resI P s [] = some (.t (.tup [])) := nrfl rfl
def consI (a : Option PV) (l : Option (List PV)) : Option (List PV) := match a, l with | some b, some bs => some (b :: bs) | _, _ => none
@[go_sem] theorem consI_some (a : PV) (l : List PV) : consI (some a) (some l) = some (a :: l) := nrfl rfl
@[go_sem] theorem mapO_resI_nil : mapO (resPV P s) [] = some [] := nrfl rfl
@[go_sem] theorem mapO_resI_cons (a : ResultVar) (l : List ResultVar) : mapO (resPV P s) (a :: l) = consI (resPV P s a) (mapO (resPV P s) l) := by
  simp only [mapO, consI]; cases resPV P s a <;> cases mapO (resPV P s) l <;> rfl
@[go_sem] theorem resPV_tmp (t : Tmp) : resPV P s (.tmp t) = some (s.sl t) := nrfl rfl
@[go_sem] theorem resPV_cell (a : Tmp) (t : TypeId) : resPV P s (.cell a t) = loadPV P t (s.sl a) s.hp := nrfl rfl
theorem extract_mkTup (l : List PV) (i : Nat) : extractPV (mkTup l) i = l[i]? := by
  unfold mkTup extractPV
  cases h : trees l with
  | none => rfl
  | some ts =>
    have := trees_get h; subst this
    simp only [List.getElem?_map]
    cases ts[i]? <;> rfl
attribute [go_sem ↓] extract_mkTup

/-! what is known of lengths -/
theorem icall_sized {g : FuncId} {args : List PV} {Q : PV → Hp → Prop} (he : Enters P g) (hd : (∀ x, PV.t x ∈ args → x.sized = true) → (∀ id o, hget h id = some o → o.len ≤ 9223372036854775807) → ICall P g args h Q) : ICall P g args h Q := by
  refine ⟨he, fun w A μ vs hr hl hv => ?_⟩
  refine (hd (fun x hx => ?_) (fun id o ho => ?_)).2 w A μ vs hr hl hv
  · obtain ⟨i, hi⟩ := List.mem_iff_getElem?.1 hx
    exact (hv i _ hi).tree.sized
  · by_cases hz : o.esz = 0
    · rw [hr.len0 ho hz]; decide
    obtain ⟨cur, cap, h1, h2, h3, h4, h5, h6, h7, _⟩ := hr.obj id o ho hz
    exact Nat.le_trans h6 (by simpa [maxLen] using h7)
/-- THE CONTRACT OF A FUNCTION THAT SHARES THE HEAP. -/
theorem icall_mk {g : FuncId} {fn : Func} {c : Code} {args : List PV} {Q : PV → Hp → Prop} (hm : P.follows .mixedOrders = true) (hf : P.funcs[g]? = some fn) (hb : fn.body = some c) (hname : (fn.name == "runtime.NumGoroutine") = false)
    (mu : Nat → Bool) (hok : codeOK mu fn.ntmps c = true) (hn : Nat.ble args.length fn.ntmps = true)
    (hw : (∀ x, PV.t x ∈ args → x.sized = true) → (∀ id o, hget h id = some o → o.len ≤ 9223372036854775807) → kont P mu (endI P fn Q) [.code c] .normal (initStI args h)) : ICall P g args h Q :=
  icall_sized ⟨fn, hf, hname, by simp [hb]⟩ fun hs ho => icall_of_wp hm hf hb hname mu hok (Nat.le_of_ble_eq_true hn) (by rw [kont_start]; exact hw hs ho)
end

/-! the heap but for some objects -/
def Same (h h' : Hp) (ids : List Id) : Prop := ∀ id o, id ∉ ids → hget h id = some o → hget h' id = some o
theorem Same.refl (h : Hp) (ids : List Id) : Same h h ids := fun _ _ _ ho => ho
theorem Same.trans {h h' h'' : Hp} {ids ids' : List Id} (a : Same h h' ids) (b : Same h' h'' ids') : Same h h'' (ids ++ ids') := fun id o hn ho => b id o (fun e => hn (by simp [e])) (a id o (fun e => hn (by simp [e])) ho)
theorem Same.mono {h h' : Hp} {ids ids' : List Id} (a : Same h h' ids) (hs : ∀ i ∈ ids, i ∈ ids') : Same h h' ids' := fun id o hn ho => a id o (fun e => hn (hs _ e)) ho
theorem Same.set (h : Hp) (id : Id) (o : Obj) : Same h (hset h id o) [id] := fun i o' hn ho => by
  rw [hget_hset, if_neg (by simpa using hn)]; exact ho
theorem Same.new (h : Hp) (d : Nat) (o : Obj) : Same h (hnew h d o) [] := fun i o' _ ho => by
  rw [hget_hnew, if_neg]
  · exact ho
  · intro e; rw [e, hget_hnext] at ho; cases ho
end Go.Vm

namespace Go.Vm
open Go
theorem reach_row {h : Hp} {id : Id} {l : List Tr} {esz n m : Nat} {e : TypeId} {ag lv : Bool} (k : Nat) (hg : hget h id = some ⟨l.map .t, esz, n, e, ag, lv⟩) : reach h (k + 1) (.rf id m) = [id] := by
  simp only [reach, hg]
  rw [flat_reach]
theorem frz_other {h : Hp} {ids : List Id} {id : Id} {o : Obj} (hg : hget h id = some o) (hn : ids.contains id = false) : hget (frz h ids) id = some o := by
  rw [hget_frz, hg]
  simp only [Option.map_some, hn, Bool.not_false, Bool.and_true]
theorem frz_row {h : Hp} {id id' : Id} {l : List Tr} {esz n m : Nat} {e : TypeId} {ag lv : Bool} {o : Obj} (hg : hget h id = some ⟨l.map .t, esz, n, e, ag, lv⟩) (ho : hget h id' = some o) (hne : (id == id') = false) :
    hget (frz h (reach h dep (.rf id m) ++ [])) id' = some o := by
  refine frz_other ho ?_
  rw [show dep = 5 + 1 from rfl, reach_row 5 hg]
  have : (id' == id) = false := by
    rw [beq_eq_false_iff_ne] at hne ⊢
    exact fun e => hne e.symm
  simp [this]
  intro e; simp [e] at this
end Go.Vm
