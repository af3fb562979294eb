/- The reference's integers: sums with factors; rows of aggregates. -/
import Derived.Test.YtajgclnahfmfmaaN2
set_option linter.unusedSimpArgs false
set_option maxRecDepth 10000
namespace Go.Vm
open Go Go.Proofs Go.Whole

/-! rows of aggregates -/
theorem flat_cons (x : Tr) (l : List Tr) : flat (x :: l) = x.cells ++ flat l := rfl
theorem flat_split {l : List Tr} {k : Nat} {x : Tr} (hx : l[k]? = some x) : flat l = flat (l.take k) ++ (x.cells ++ flat (l.drop (k + 1))) := by
  have hk := (List.getElem?_eq_some_iff.1 hx).1
  have hv := (List.getElem?_eq_some_iff.1 hx).2
  conv => lhs; rw [← List.take_append_drop k l, flat_append, List.drop_eq_getElem_cons hk, hv, flat_cons]
theorem flat_take_len {l : List Tr} {esz : Nat} (he : ∀ y ∈ l, y.cells.length = esz) {k : Nat} (hk : k ≤ l.length) : (flat (l.take k)).length = k * esz := by
  rw [flat_length _ esz (fun y hy => he y (List.mem_of_mem_take hy)), List.length_take, Nat.min_eq_left hk]
theorem flat_cells_get {l : List Tr} {esz k : Nat} {x : Tr} (he : ∀ y ∈ l, y.cells.length = esz) (hx : l[k]? = some x) : ((((flat l).map PV.t).drop (k * esz)).take esz) = x.cells.map PV.t := by
  have hk := (List.getElem?_eq_some_iff.1 hx).1
  have hl := flat_take_len he (Nat.le_of_lt hk)
  have hxl := he x (List.mem_of_getElem? hx)
  rw [flat_split hx, List.map_append, List.map_append, List.drop_left' (by simp [hl]), List.take_left' (by simp [hxl])]
theorem flat_set {l : List Tr} {k : Nat} {x y : Tr} (hx : l[k]? = some x) : flat (l.set k y) = flat (l.take k) ++ (y.cells ++ flat (l.drop (k + 1))) := by
  have hk := (List.getElem?_eq_some_iff.1 hx).1
  have h1 : (l.set k y)[k]? = some y := List.getElem?_set_self hk
  rw [flat_split h1, List.take_set_of_le (Nat.le_refl _), List.drop_set_of_lt (by omega)]
theorem flat_splice {l : List Tr} {esz k : Nat} {x y : Tr} (he : ∀ y ∈ l, y.cells.length = esz) (hx : l[k]? = some x) (hy : y.cells.length = esz) : splice ((flat l).map PV.t) (k * esz) (y.cells.map PV.t) = (flat (l.set k y)).map PV.t := by
  have hk := (List.getElem?_eq_some_iff.1 hx).1
  have hl := flat_take_len he (Nat.le_of_lt hk)
  have hxl := he x (List.mem_of_getElem? hx)
  rw [flat_set hx, splice_def', flat_split hx]
  simp only [List.map_append, List.length_map]
  rw [List.take_left' (by simp [hl]), hy, List.append_assoc]
  congr 1
  congr 1
  rw [show k * esz + esz = (flat (l.take k)).length + x.cells.length by rw [hl, hxl], ← List.drop_drop, List.drop_left' (by simp), List.drop_left' (by simp)]
theorem zrow_flat (z : List Tr) : ∀ n, zrow z n = flat (List.replicate n (.agg z))
  | 0 => rfl
  | n + 1 => by rw [zrow, zrow_flat z n, List.replicate_succ, flat_cons]; rfl
theorem toTr_flat {h : Hp} {id : Id} {l : List Tr} {esz n : Nat} {e : TypeId} {lv : Bool} (k : Nat) (hl : ∀ x ∈ l, elemOK true esz x) (hn : l.length = n) (hg : hget h id = some ⟨(flat l).map .t, esz, n, e, true, lv⟩) : toTr h (k + 1) (.rf id n) = some (.sl true l) := by
  rw [toTr_rf', hg]
  subst hn
  simp only [if_true, mapO_t, elems_flat hl]

namespace Ytajgclnahfmfmaa
open Go.Proofs.Try
structure RInt where
  pn : Bool
  p : Nat
  nn : Bool
  n : Nat
def RInt.cs (x : RInt) : List Tr := [.sl x.pn (dl (digs x.p)), .sl x.nn (dl (digs x.n))]
def RInt.tr (x : RInt) : Tr := .agg x.cs
attribute [go_sem] RInt.cs RInt.tr
abbrev tRInt : TypeId := 104
def withR (x : RInt) (k : Int) (b : Nat) : RInt := if k < 0 then { x with nn := decide (x.n + b * k.natAbs ≠ 0), n := x.n + b * k.natAbs } else { x with pn := decide (x.p + b * k.natAbs ≠ 0), p := x.p + b * k.natAbs }
theorem withR_v (x : RInt) (k : Int) (b : Nat) : ((withR x k b).p : Int) - (withR x k b).n = (x.p : Int) - x.n + k * b := by
  unfold withR
  split
  · rename_i h
    have : ((b * k.natAbs : Nat) : Int) = -(k * b) := by rw [Int.natCast_mul, show ((k.natAbs : Nat) : Int) = -k by omega, Int.mul_neg, Int.mul_comm]
    simp only
    rw [Int.natCast_add, this]; omega
  · rename_i h
    have : ((b * k.natAbs : Nat) : Int) = k * b := by rw [Int.natCast_mul, show ((k.natAbs : Nat) : Int) = k by omega, Int.mul_comm]
    simp only
    rw [Int.natCast_add, this]; omega
theorem with_d (x : RInt) (k : Int) (bn : Bool) (b : Nat) (hk : inI64 k) (hb : (digs b).length ≤ 100) (hp : (digs x.p).length ≤ 600000) (hn : (digs x.n).length ≤ 600000) : DCall Try.prog 76 [x.tr, i64 k, natT bn b] (withR x k b).tr := by
  have s1 := sizeN_d k hk
  have hk64 : k.natAbs < 18446744073709551616 := by obtain ⟨h1, h2⟩ := hk; omega
  have t1 := timesN_d bn b k.natAbs hk64 (by omega)
  have hbl : (digs (b * k.natAbs)).length ≤ 102 := len_mul (n := 2) hb (digs_length_le (by rw [show B ^ 2 = 18446744073709551616 by decide]; exact hk64))
  by_cases hz : k < 0
  · have p1 := plusN_d x.nn (decide (b * k.natAbs ≠ 0)) x.n (b * k.natAbs) (by omega) (by omega)
    have g : decide (k < 0) = true := decide_eq_true hz
    rw [show withR x k b = { x with nn := decide (x.n + b * k.natAbs ≠ 0), n := x.n + b * k.natAbs } from if_pos hz]
    clear hz hbl hp hn hb hk hk64
    generalize b * k.natAbs = z at *
    generalize x.n + z = z2 at *
    generalize decide (z2 ≠ 0) = b2 at *
    generalize decide (z ≠ 0) = b1 at *
    refine dcall_mk orders Try.func76 rfl (by kernel_rfl) (fun d => d == 3 || d == 6 || d == 9 || d == 17) (by kernel_rfl) rfl (fun hs => ?_)
    clear hs
    repeat' (first
      | with_reducible refine cdK_splitN (fun h => ?_) (fun h => ?_)
      | with_reducible refine gdK_splitTN (fun h => ?_) (fun h => ?_)
      | with_reducible refine gdK_splitFN (fun h => ?_) (fun h => ?_)
      | with_reducible refine cdK_split (fun h => ?_) (fun h => ?_)
      | with_reducible refine gdK_splitT (fun h => ?_) (fun h => ?_)
      | with_reducible refine gdK_splitF (fun h => ?_) (fun h => ?_)
      | refine clK_mk (s1) rfl ?_
      | refine clK_mk (t1) rfl ?_
      | refine clK_mk (p1) rfl ?_
      | simp only [go_sem, Nat.reduceBEq, Nat.reduceAdd, Nat.reduceMul, Nat.reduceSub, Nat.reduceLeDiff, Nat.reduceLT, Nat.reduceEqDiff, Int.reduceEq, Int.reduceBEq, Int.reduceBNe, Int.reduceLT, Int.reduceLE, *])
  · have p1 := plusN_d x.pn (decide (b * k.natAbs ≠ 0)) x.p (b * k.natAbs) (by omega) (by omega)
    have g : decide (k < 0) = false := decide_eq_false hz
    rw [show withR x k b = { x with pn := decide (x.p + b * k.natAbs ≠ 0), p := x.p + b * k.natAbs } from if_neg hz]
    clear hz hbl hp hn hb hk hk64
    generalize b * k.natAbs = z at *
    generalize x.p + z = z2 at *
    generalize decide (z2 ≠ 0) = b2 at *
    generalize decide (z ≠ 0) = b1 at *
    refine dcall_mk orders Try.func76 rfl (by kernel_rfl) (fun d => d == 3 || d == 6 || d == 9 || d == 17) (by kernel_rfl) rfl (fun hs => ?_)
    clear hs
    repeat' (first
      | with_reducible refine cdK_splitN (fun h => ?_) (fun h => ?_)
      | with_reducible refine gdK_splitTN (fun h => ?_) (fun h => ?_)
      | with_reducible refine gdK_splitFN (fun h => ?_) (fun h => ?_)
      | with_reducible refine cdK_split (fun h => ?_) (fun h => ?_)
      | with_reducible refine gdK_splitT (fun h => ?_) (fun h => ?_)
      | with_reducible refine gdK_splitF (fun h => ?_) (fun h => ?_)
      | refine clK_mk (s1) rfl ?_
      | refine clK_mk (t1) rfl ?_
      | refine clK_mk (p1) rfl ?_
      | simp only [go_sem, Nat.reduceBEq, Nat.reduceAdd, Nat.reduceMul, Nat.reduceSub, Nat.reduceLeDiff, Nat.reduceLT, Nat.reduceEqDiff, Int.reduceEq, Int.reduceBEq, Int.reduceBNe, Int.reduceLT, Int.reduceLE, *])
def RInt.ok (x : RInt) : Prop := (digs x.p).length ≤ 400000 ∧ (digs x.n).length ≤ 400000
theorem zero_d (x : RInt) (h : x.ok) : DCall Try.prog 66 [x.tr] (.bool (decide (x.p = x.n))) := by
  have s1 := sameN_d x.pn x.nn x.p x.n (Nat.le_trans h.1 (by decide)) (Nat.le_trans h.2 (by decide))
  refine dcall_mk orders Try.func66 rfl (by kernel_rfl) noMu (by kernel_rfl) rfl (fun hs => ?_)
  clear hs h
  repeat' (first
    | with_reducible refine cdK_splitN (fun h => ?_) (fun h => ?_)
    | with_reducible refine gdK_splitTN (fun h => ?_) (fun h => ?_)
    | with_reducible refine gdK_splitFN (fun h => ?_) (fun h => ?_)
    | with_reducible refine cdK_split (fun h => ?_) (fun h => ?_)
    | with_reducible refine gdK_splitT (fun h => ?_) (fun h => ?_)
    | with_reducible refine gdK_splitF (fun h => ?_) (fun h => ?_)
    | refine clK_mk (s1) rfl ?_
    | simp only [go_sem, Nat.reduceBEq, Nat.reduceAdd, Nat.reduceMul, Nat.reduceSub, Nat.reduceLeDiff, Nat.reduceLT, Nat.reduceEqDiff, Int.reduceEq, Int.reduceBEq, Int.reduceBNe, Int.reduceLT, Int.reduceLE, *])
theorem negative_d (x : RInt) (h : x.ok) : DCall Try.prog 67 [x.tr] (.bool (decide (x.p < x.n))) := by
  have s1 := lessN_d x.pn x.nn x.p x.n (Nat.le_trans h.1 (by decide)) (Nat.le_trans h.2 (by decide))
  refine dcall_mk orders Try.func67 rfl (by kernel_rfl) noMu (by kernel_rfl) rfl (fun hs => ?_)
  clear hs h
  repeat' (first
    | with_reducible refine cdK_splitN (fun h => ?_) (fun h => ?_)
    | with_reducible refine gdK_splitTN (fun h => ?_) (fun h => ?_)
    | with_reducible refine gdK_splitFN (fun h => ?_) (fun h => ?_)
    | with_reducible refine cdK_split (fun h => ?_) (fun h => ?_)
    | with_reducible refine gdK_splitT (fun h => ?_) (fun h => ?_)
    | with_reducible refine gdK_splitF (fun h => ?_) (fun h => ?_)
    | refine clK_mk (s1) rfl ?_
    | simp only [go_sem, Nat.reduceBEq, Nat.reduceAdd, Nat.reduceMul, Nat.reduceSub, Nat.reduceLeDiff, Nat.reduceLT, Nat.reduceEqDiff, Int.reduceEq, Int.reduceBEq, Int.reduceBNe, Int.reduceLT, Int.reduceLE, *])
theorem most_d (x y : RInt) (hx : x.ok) (hy : y.ok) : DCall Try.prog 77 [x.tr, y.tr] (.bool (!decide (y.p + x.n < x.p + y.n))) := by
  have a1 := plusN_d y.pn x.nn y.p x.n (Nat.le_trans hy.1 (by decide)) (Nat.le_trans hx.2 (by decide))
  have a2 := plusN_d x.pn y.nn x.p y.n (Nat.le_trans hx.1 (by decide)) (Nat.le_trans hy.2 (by decide))
  have l1 := lessN_d (decide (y.p + x.n ≠ 0)) (decide (x.p + y.n ≠ 0)) (y.p + x.n) (x.p + y.n) (Nat.le_trans (len_add hy.1 hx.2) (by decide)) (Nat.le_trans (len_add hx.1 hy.2) (by decide))
  clear hx hy
  generalize hz1 : y.p + x.n = z1 at *
  generalize hz2 : x.p + y.n = z2 at *
  clear hz1 hz2
  generalize decide (z1 ≠ 0) = b1 at *
  generalize decide (z2 ≠ 0) = b2 at *
  refine dcall_mk orders Try.func77 rfl (by kernel_rfl) noMu (by kernel_rfl) rfl (fun hs => ?_)
  clear hs
  repeat' (first
    | with_reducible refine cdK_splitN (fun h => ?_) (fun h => ?_)
    | with_reducible refine gdK_splitTN (fun h => ?_) (fun h => ?_)
    | with_reducible refine gdK_splitFN (fun h => ?_) (fun h => ?_)
    | with_reducible refine cdK_split (fun h => ?_) (fun h => ?_)
    | with_reducible refine gdK_splitT (fun h => ?_) (fun h => ?_)
    | with_reducible refine gdK_splitF (fun h => ?_) (fun h => ?_)
    | refine clK_mk (a1) rfl ?_
    | refine clK_mk (a2) rfl ?_
    | refine clK_mk (l1) rfl ?_
    | simp only [go_sem, Nat.reduceBEq, Nat.reduceAdd, Nat.reduceMul, Nat.reduceSub, Nat.reduceLeDiff, Nat.reduceLT, Nat.reduceEqDiff, Int.reduceEq, Int.reduceBEq, Int.reduceBNe, Int.reduceLT, Int.reduceLE, *])
end Ytajgclnahfmfmaa
end Go.Vm
